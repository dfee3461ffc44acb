import Derived.KernelRfl
import Derived.Test.YtbiidlmhadihlaaProg
import Derived.Test.YtbiidlmhadihlaaX1
set_option linter.unusedSimpArgs false
set_option linter.unusedVariables false
set_option linter.unusedSectionVars false
set_option maxRecDepth 100000
section
namespace Go.Proofs.Ytbiidlmhadihlaa
open Go.AM Try
noncomputable def wO (C:aT) (k:Nat) (K:KS) (p4 p5 p8 p11 p14:V) (S:St):An:=
C 14 [p11] S fun t32 S33=>
dR (aY none S33 (.row 0 7 [[.int .i64 0,.int .i64 0,.int .i64 0,.int .i64 0,.int .i64 0,.str [],.nils]])) fun r34=>
dR (aV prog 24 (.ptr r34.1 0 0 0) t32 r34.2) fun S35=>
dR (aA prog 24 (.ptr r34.1 0 0 0) 5) fun t36=>
dR (aB prog 9 t36 S35) fun t37=>
dR (aA prog 24 p8 5) fun t38=>
dR (aB prog 9 t38 S35) fun t39=>
bY (aN prog 9 t37 t39) (dR (aD prog .eql 9 t37 t39) fun t40=>
aE t40 (dR (aA prog 24 (.ptr r34.1 0 0 0) 2) fun t41=>
dR (aB prog 3 t41 S35) fun t42=>
bY (aN prog 3 t42 (.int .i64 9)) (dR (aD prog .eql 3 t42 (.int .i64 9)) fun t43=>
aE t43 (dR (aA prog 24 (.ptr r34.1 0 0 0) 3) fun t44=>
dR (aB prog 3 t44 S35) fun t45=>
bY (aN prog 3 t45 (.int .i64 2)) (dR (aD prog .eql 3 t45 (.int .i64 2)) fun t46=>
aE t46 (dR (aA prog 24 (.ptr r34.1 0 0 0) 4) fun t47=>
dR (aB prog 3 t47 S35) fun t48=>
bY (aN prog 3 t48 (.int .i64 3)) (dR (aD prog .eql 3 t48 (.int .i64 3)) fun t49=>
aE t49 (dR (aD prog .add 3 p5 (.int .i64 600)) fun t50=>
dR (aD prog .sub 3 t50 (.int .i64 1)) fun t51=>
dR (aD prog .quo 3 t51 (.int .i64 600)) fun t52=>
dR (aD prog .geq 3 p14 t52) fun t53=>
aE t53 (C 10 [] S35 fun t54 S55=>
K t54 S55) (K (.bool false) S35)) (K (.bool false) S35))) (K (.bool false) S35))) (K (.bool false) S35))) (K (.bool false) S35))
noncomputable def aH0 (C:aT) (k:Nat) (K:KS) (again2:List V→St→An) (again3:List V→St→An) (p1 p4 p5 p8 p9 p11 p14 p15 p16 p17:V) (S:St):An:=
C 14 [p11] S fun t69 S70=>
dR (iZ prog 24 t69 5) fun t71=>
bY (aN prog 9 t71 (.str [])) (dR (aD prog .neq 9 t71 (.str [])) fun t72=>
aE t72 (dR (aA prog 24 p8 5) fun t73=>
dR (aB prog 9 t73 S70) fun t74=>
bY (aN prog 9 t71 t74) (dR (aD prog .neq 9 t71 t74) fun t75=>
aE t75 (K (.bool false) S70) (dR (aD prog .add 3 p17 (.int .i64 1)) fun t76=>
again3 [p4,p14,t76] S70))) (dR (aD prog .add 3 p17 (.int .i64 1)) fun t77=>
again3 [p4,p14,t77] S70))
noncomputable def aA6 (C:aT) (k:Nat) (K:KS) (again2:List V→St→An) (again3:List V→St→An) (p1 p4 p5 p8 p9 p11 p14 p15 p16 p17 p126:V) (S:St):An:=
aE p126 (dR (bA prog 43 p16 p17) fun t78=>
dR (aB prog 37 t78 S) fun t79=>
C 19 [p11,t79] S fun t80 S81=>
aH0 C k K again2 again3 p1 p4 p5 p8 p9 p11 p14 p15 p16 p17 S81) (aH0 C k K again2 again3 p1 p4 p5 p8 p9 p11 p14 p15 p16 p17 S)
noncomputable def aH1 (C:aT) (k:Nat) (K:KS) (again2:List V→St→An) (again3:List V→St→An) (p1 p4 p5 p8 p9 p11 p14 p15 p16 p17:V) (S:St):An:=
dR (aD prog .rem 3 p14 (.int .i64 5)) fun t82=>
dR (dI prog 72 p1 S) fun t83=>
dR (aD prog .lss 3 t82 t83) fun t84=>
aE t84 (dR (aD prog .rem 3 p14 (.int .i64 5)) fun t85=>
dR (bA prog 72 p1 t85) fun t86=>
dR (aB prog 4 t86 S) fun t87=>
aE t87 (dR (bA prog 43 p16 p17) fun t88=>
dR (aA prog 37 t88 0) fun t89=>
dR (aB prog 3 t89 S) fun t90=>
bY (aN prog 3 t90 (.int .i64 5)) (dR (aD prog .eql 3 t90 (.int .i64 5)) fun t91=>
aA6 C k K again2 again3 p1 p4 p5 p8 p9 p11 p14 p15 p16 p17 t91 S)) (aA6 C k K again2 again3 p1 p4 p5 p8 p9 p11 p14 p15 p16 p17 (.bool false) S)) (aA6 C k K again2 again3 p1 p4 p5 p8 p9 p11 p14 p15 p16 p17 (.bool false) S)
noncomputable def wP (C:aT) (k:Nat) (K:KS) (again2:List V→St→An) (p1 p4 p5 p8 p9 p11 p14 p15 p16:V) (vs:List V) (S:St) (again4:List V→St→An):An:=
oL vs fun x19 vs=>
dR (dI prog 43 p16 S) fun t99=>
dR (aD prog .lss 3 x19 t99) fun t100=>
aE t100 (dR (bA prog 43 p16 x19) fun t101=>
dR (aB prog 37 t101 S) fun t102=>
C 19 [p9,t102] S fun t103 S104=>
dR (aD prog .add 3 x19 (.int .i64 1)) fun t105=>
again4 [t105] S104) (dR (aD prog .add 3 p15 (.int .i64 1)) fun t106=>
again2 [p4,p14,t106] S)
noncomputable def aA7 (C:aT) (k:Nat) (K:KS) (again2:List V→St→An) (p1 p5 p8 p9 p11 p15 p16:V) (vs:List V) (S:St) (again3:List V→St→An):An:=
oL vs fun x4 vs=>
oL vs fun x14 vs=>
oL vs fun x17 vs=>
dR (dI prog 43 p16 S) fun t63=>
dR (aD prog .lss 3 x17 t63) fun t64=>
aE t64 (dR (bA prog 43 p16 x17) fun t65=>
dR (aB prog 37 t65 S) fun t66=>
C 19 [p11,t66] S fun t67 S68=>
dR (bA prog 43 p16 x17) fun t92=>
dR (aA prog 37 t92 0) fun t93=>
dR (aB prog 3 t93 S68) fun t94=>
bY (aN prog 3 t94 (.int .i64 5)) (dR (aD prog .eql 3 t94 (.int .i64 5)) fun t95=>
aE t95 (dR (aD prog .add 3 x14 (.int .i64 1)) fun t96=>
aH1 C k K again2 again3 p1 x4 p5 p8 p9 p11 t96 p15 p16 x17 S68) (aH1 C k K again2 again3 p1 x4 p5 p8 p9 p11 x14 p15 p16 x17 S68))) (C 27 [p11] S fun t97 S98=>
cW k [(.int .i64 0)] S98 (wP C k K again2 p1 x4 p5 p8 p9 p11 x14 p15 t97))
noncomputable def aH2 (C:aT) (k:Nat) (K:KS) (again2:List V→St→An) (p1 p4 p5 p8 p9 p11 p14 p15:V) (S:St):An:=
C 27 [p9] S fun t61 S62=>
cW k [p4,p14,(.int .i64 0)] S62 (aA7 C k K again2 p1 p5 p8 p9 p11 p15 t61)
noncomputable def aDm (C:aT) (k:Nat) (K:KS) (p1 p5 p8 p9 p11:V) (vs:List V) (S:St) (again2:List V→St→An):An:=
oL vs fun x4 vs=>
oL vs fun x14 vs=>
oL vs fun x15 vs=>
dR (aD prog .lss 3 x15 (.int .i64 200)) fun t56=>
aE t56 (C 17 [p11] S fun t57 S58=>
dR (iZ prog 50 t57 2) fun t59=>
dR (aD prog .lss 3 t59 (.int .i64 10)) fun t60=>
aE t60 (dR (aD prog .rem 3 x15 (.int .i64 3)) fun t107=>
bY (aN prog 3 t107 (.int .i64 2)) (dR (aD prog .eql 3 t107 (.int .i64 2)) fun t108=>
aE t108 (C 18 [p9,(.int .i64 0)] S58 fun t109 S110=>
aH2 C k K again2 p1 x4 p5 p8 p9 p11 x14 x15 S110) (aH2 C k K again2 p1 x4 p5 p8 p9 p11 x14 x15 S58))) (wO C k K x4 p5 p8 p11 x14 S58)) (wO C k K x4 p5 p8 p11 x14 S)
noncomputable def aDn (C:aT) (k:Nat) (K:KS) (p1 p5 p8 p9 p11:V) (vs:List V) (S:St) (again1:List V→St→An):An:=
oL vs fun x13 vs=>
dR (aD prog .lss 3 x13 (.int .i64 10)) fun t28=>
aE t28 (C 18 [p9,(.int .i64 0)] S fun t29 S30=>
dR (aD prog .add 3 x13 (.int .i64 1)) fun t31=>
again1 [t31] S30) (cW k [(.bool false),(.int .i64 0),(.int .i64 0)] S (aDm C k K p1 p5 p8 p9 p11))
noncomputable def aA8 (C:aT) (k:Nat) (K:KS) (p1 p5 p6:V) (vs:List V) (S:St) (again0:List V→St→An):An:=
oL vs fun x7 vs=>
dR (aD prog .lss 3 x7 p5) fun t3=>
aE t3 (dR (bP prog 3 5 x7 none S) fun r4=>
dR (aD prog .mul 5 r4.1 (.int .u8 7)) fun t5=>
dR (aD prog .add 5 t5 (.int .u8 1)) fun t6=>
dR (bA prog 74 p6 x7) fun t7=>
dR (aV prog 5 t7 t6 r4.2) fun S8=>
dR (aD prog .add 3 x7 (.int .i64 1)) fun t9=>
again0 [t9] S8) (dR (bP prog 74 9 p6 none S) fun r10=>
dR (bM prog 24 [(0,(.int .i64 3)),(1,(.int .i64 (-1))),(2,(.int .i64 9)),(3,(.int .i64 2)),(4,(.int .i64 3)),(5,r10.1)]) fun t11=>
dR (aY none r10.2 (.row 0 7 [[.int .i64 0,.int .i64 0,.int .i64 0,.int .i64 0,.int .i64 0,.str [],.nils]])) fun r12=>
dR (aV prog 24 (.ptr r12.1 0 0 0) t11 r12.2) fun S13=>
dR (aB prog 24 (.ptr r12.1 0 0 0) S13) fun t14=>
C 11 [(.int .i64 0),t14,(.int .i64 0)] S13 fun t15 S16=>
qY t15 0 fun t17=>
qY t15 1 fun t18=>
dR (bM prog 24 [(0,(.int .i64 3)),(1,(.int .i64 (-1))),(4,(.int .i64 3))]) fun t19=>
C 11 [(.int .i64 1),t19,(.int .i64 9)] S16 fun t20 S21=>
qY t20 0 fun t22=>
qY t20 1 fun t23=>
bY (aN prog 28 t17 (.nilp)) (dR (aD prog .eql 28 t17 (.nilp)) fun t24=>
aE t24 (K (.bool false) S21) (bY (aN prog 28 t22 (.nilp)) (dR (aD prog .eql 28 t22 (.nilp)) fun t25=>
aE t25 (K (.bool false) S21) (bY (aN prog 29 t18 (.int .i64 0)) (dR (aD prog .neq 29 t18 (.int .i64 0)) fun t26=>
aE t26 (K (.bool false) S21) (bY (aN prog 29 t23 (.int .i64 0)) (dR (aD prog .neq 29 t23 (.int .i64 0)) fun t27=>
aE t27 (K (.bool false) S21) (cW k [(.int .i64 0)] S21 (aDn C k K p1 p5 (.ptr r12.1 0 0 0) t17 t22))))))))))
noncomputable def m7 (C:aT) (k:Nat) (a0 a1:V) (S:St) (K:KS):An:=
C 26 [a0,(.int .i64 1),(.int .i64 6000)] S fun t0 S1=>
dR (cY prog 74 t0 t0 none S1) fun r2=>
cW k [(.int .i64 0)] r2.2 (aA8 C k K a1 t0 r2.1)
theorem aRq:(fun (k:Nat) (a0 a1:V) (S:St) (K:KS)=>aC prog bD bE (k+1) 7 [a0,a1] S K)=fun k a0 a1 S K=>m7 (aC prog bD bE k) k a0 a1 S K:=by kernel_rfl
noncomputable def m11 (C:aT) (k:Nat) (a0 a1 a2:V) (S:St) (K:KS):An:=
bY (aH (a1:V).cells) (dR (aY none S (.row 0 (a1:V).cells.length [(a1:V).cells])) fun r0=>
dR (aD prog .lss 3 a0 (.int .i64 0)) fun t1=>
aE t1 (K (.tup [(.nilp),(.int .i64 1)]) r0.2) (dR (aD prog .geq 3 a0 (.int .i64 7)) fun t2=>
aE t2 (K (.tup [(.nilp),(.int .i64 1)]) r0.2) (dR (aB prog 24 (.ptr r0.1 0 0 0) r0.2) fun t3=>
C 33 [t3] r0.2 fun t4 S5=>
dR (yB .not t4) fun t6=>
aE t6 (K (.tup [(.nilp),(.int .i64 1)]) S5) (C 34 [a2] S5 fun t7 S8=>
dR (aB prog 24 (.ptr r0.1 0 0 0) (⟨S8.next+11,S8.heap⟩:St)) fun t9=>
dR (aA prog 24 (.ptr r0.1 0 0 0) 2) fun t10=>
dR (aB prog 3 t10 (⟨S8.next+11,S8.heap⟩:St)) fun t11=>
C 35 [t9] (⟨S8.next+11,S8.heap⟩:St) fun t12 S13=>
dR (aB prog 3 t10 S13) fun t14=>
bY (cV t11 t14) (dR (bM prog 88 [(0,a0),(1,t12),(2,(.int .i64 1)),(3,(.int .i64 (-1))),(4,t11),(5,t7),(6,t7)]) fun t15=>
bY (aH (t15:V).cells) (dR (aY (some (S8.next+8)) S13 (.row 0 (t15:V).cells.length [(t15:V).cells])) fun r16=>
K (.tup [(.ptr r16.1 0 0 0),(.int .i64 0)]) r16.2))))))
theorem aOy:(fun (k:Nat) (a0 a1 a2:V) (S:St) (K:KS)=>aC prog bD bE (k+1) 11 [a0,a1,a2] S K)=fun k a0 a1 a2 S K=>m11 (aC prog bD bE k) k a0 a1 a2 S K:=by kernel_rfl
noncomputable def m14 (C:aT) (k:Nat) (a0:V) (S:St) (K:KS):An:=
dR (aY none S (.row 0 7 [[.int .i64 0,.int .i64 0,.int .i64 0,.int .i64 0,.int .i64 0,.str [],.nils]])) fun r0=>
aZ a0 (dR (aA prog 88 a0 1) fun t1=>
dR (aB prog 24 t1 r0.2) fun t2=>
C 35 [t2] r0.2 fun t3 S4=>
dR (aV prog 24 (.ptr r0.1 0 0 0) t3 S4) fun S5=>
dR (aB prog 24 (.ptr r0.1 0 0 0) S5) fun t6=>
K t6 S5)
theorem aOz:(fun (k:Nat) (a0:V) (S:St) (K:KS)=>aC prog bD bE (k+1) 14 [a0] S K)=fun k a0 S K=>m14 (aC prog bD bE k) k a0 S K:=by kernel_rfl
noncomputable def m17 (C:aT) (k:Nat) (a0:V) (S:St) (K:KS):An:=
dR (aY none S (.row 0 6 [[.int .i64 0,.int .i64 0,.int .i64 0,.int .i64 0,.int .i64 0,.int .i64 0]])) fun r0=>
aZ a0 (dR (aA prog 88 a0 2) fun t1=>
dR (aB prog 3 t1 (⟨r0.2.next+22,r0.2.heap⟩:St)) fun t2=>
aZ a0 (dR (aA prog 88 a0 3) fun t3=>
dR (aB prog 3 t3 (⟨r0.2.next+22,r0.2.heap⟩:St)) fun t4=>
aZ a0 (dR (aA prog 88 a0 4) fun t5=>
dR (aB prog 3 t5 (⟨r0.2.next+22,r0.2.heap⟩:St)) fun t6=>
aZ a0 (dR (aA prog 88 a0 6) fun t7=>
dR (aB prog 3 t7 (⟨r0.2.next+22,r0.2.heap⟩:St)) fun t8=>
C 46 [a0] (⟨r0.2.next+22,r0.2.heap⟩:St) fun t9 S10=>
dR (aB prog 3 t7 S10) fun t11=>
bY (cV t8 t11) (dR (aB prog 3 t5 S10) fun t12=>
bY (cV t6 t12) (dR (aB prog 3 t3 S10) fun t13=>
bY (cV t4 t13) (dR (aB prog 3 t1 S10) fun t14=>
bY (cV t2 t14) (C 47 [a0] S10 fun t15 S16=>
dR (aB prog 3 t7 S16) fun t17=>
bY (cV t8 t17) (dR (aB prog 3 t5 S16) fun t18=>
bY (cV t6 t18) (dR (aB prog 3 t3 S16) fun t19=>
bY (cV t4 t19) (dR (aB prog 3 t1 S16) fun t20=>
bY (cV t2 t20) (dR (bM prog 50 [(0,t2),(1,t4),(2,t6),(3,t9),(4,t8),(5,t15)]) fun t21=>
dR (aV prog 50 (.ptr r0.1 0 0 0) t21 S16) fun S22=>
dR (aB prog 50 (.ptr r0.1 0 0 0) S22) fun t23=>
K t23 S22))))))))))))
theorem aP0:(fun (k:Nat) (a0:V) (S:St) (K:KS)=>aC prog bD bE (k+1) 17 [a0] S K)=fun k a0 S K=>m17 (aC prog bD bE k) k a0 S K:=by kernel_rfl
noncomputable def m18 (C:aT) (k:Nat) (a0 a1:V) (S:St) (K:KS):An:=
aZ a0 (dR (aA prog 88 a0 6) fun t0=>
dR (aB prog 3 t0 S) fun t1=>
dR (aD prog .sub 3 t1 (.int .i64 1)) fun t2=>
aZ a0 (dR (aA prog 88 a0 6) fun t3=>
dR (aV prog 3 t3 t2 S) fun S4=>
aZ a0 (dR (aA prog 88 a0 6) fun t5=>
dR (aB prog 3 t5 S4) fun t6=>
dR (aD prog .gtr 3 t6 (.int .i64 0)) fun t7=>
aE t7 (K (.tup []) S4) (aZ a0 (dR (aA prog 88 a0 2) fun t8=>
dR (aB prog 3 t8 S4) fun t9=>
bY (aN prog 3 t9 (.int .i64 3)) (dR (aD prog .eql 3 t9 (.int .i64 3)) fun t10=>
aE t10 (aZ a0 (dR (aA prog 88 a0 6) fun t11=>
dR (aV prog 3 t11 (.int .i64 3) S4) fun S12=>
C 48 [a0] S12 fun t13 S14=>
K (.tup []) S14)) (C 34 [a1] S4 fun t15 S16=>
aZ a0 (dR (aA prog 88 a0 5) fun t17=>
dR (aV prog 3 t17 t15 S16) fun S18=>
aZ a0 (dR (aA prog 88 a0 5) fun t19=>
dR (aB prog 3 t19 S18) fun t20=>
aZ a0 (dR (aA prog 88 a0 6) fun t21=>
dR (aV prog 3 t21 t20 S18) fun S22=>
aZ a0 (dR (aA prog 88 a0 1) fun t23=>
dR (aB prog 24 t23 S22) fun t24=>
C 49 [t24] S22 fun t25 S26=>
qY t25 0 fun t27=>
qY t25 1 fun t28=>
aZ a0 (dR (aA prog 88 a0 1) fun t29=>
dR (aA prog 24 t29 0) fun t30=>
dR (aB prog 3 t30 S26) fun t31=>
dR (aD prog .lss 3 t31 (.int .i64 1099511627776)) fun t32=>
aE t32 (aZ a0 (dR (aA prog 88 a0 0) fun t33=>
dR (aB prog 3 t33 S26) fun t34=>
C 50 [t27,t34] S26 fun t35 S36=>
aE t35 (C 51 [a0] S36 fun t37 S38=>
K (.tup []) S38) (aZ a0 (dR (aA prog 88 a0 4) fun t39=>
dR (aB prog 3 t39 S36) fun t40=>
dR (aD prog .gtr 3 t28 t40) fun t41=>
aE t41 (C 51 [a0] S36 fun t42 S43=>
K (.tup []) S43) (K (.tup []) S36))))) (K (.tup []) S26)))))))))))))
theorem aP1:(fun (k:Nat) (a0 a1:V) (S:St) (K:KS)=>aC prog bD bE (k+1) 18 [a0,a1] S K)=fun k a0 a1 S K=>m18 (aC prog bD bE k) k a0 a1 S K:=by kernel_rfl
noncomputable def aBd (C:aT) (k:Nat) (K:KS) (p0 p3:V) (S:St):An:=
dR (aA prog 37 p3 3) fun t4=>
dR (aB prog 3 t4 (⟨S.next+8,S.heap⟩:St)) fun t5=>
aZ p0 (dR (aA prog 88 p0 1) fun t6=>
dR (aA prog 24 t6 0) fun t7=>
dR (aB prog 3 t7 (⟨S.next+8,S.heap⟩:St)) fun t8=>
dR (aD prog .lss 3 t5 t8) fun t9=>
aE t9 (dR (aB prog 37 p3 (⟨S.next+8,S.heap⟩:St)) fun t10=>
C 53 [p0,t10] (⟨S.next+8,S.heap⟩:St) fun t11 S12=>
K (.tup []) S12) (dR (aA prog 37 p3 0) fun t13=>
dR (aB prog 3 t13 (⟨S.next+8,S.heap⟩:St)) fun t14=>
bY (aN prog 3 t14 (.int .i64 1)) (dR (aD prog .eql 3 t14 (.int .i64 1)) fun t15=>
aE t15 (dR (aB prog 37 p3 (⟨S.next+8,S.heap⟩:St)) fun t16=>
C 54 [p0,t16] (⟨S.next+8,S.heap⟩:St) fun t17 S18=>
K (.tup []) S18) (bY (aN prog 3 t14 (.int .i64 2)) (dR (aD prog .eql 3 t14 (.int .i64 2)) fun t19=>
aE t19 (dR (aB prog 37 p3 (⟨S.next+8,S.heap⟩:St)) fun t20=>
C 55 [p0,t20] (⟨S.next+8,S.heap⟩:St) fun t21 S22=>
K (.tup []) S22) (bY (aN prog 3 t14 (.int .i64 3)) (dR (aD prog .eql 3 t14 (.int .i64 3)) fun t23=>
aE t23 (dR (aB prog 37 p3 (⟨S.next+8,S.heap⟩:St)) fun t24=>
C 56 [p0,t24] (⟨S.next+8,S.heap⟩:St) fun t25 S26=>
K (.tup []) S26) (bY (aN prog 3 t14 (.int .i64 4)) (dR (aD prog .eql 3 t14 (.int .i64 4)) fun t27=>
aE t27 (dR (aB prog 37 p3 (⟨S.next+8,S.heap⟩:St)) fun t28=>
C 57 [p0,t28] (⟨S.next+8,S.heap⟩:St) fun t29 S30=>
K (.tup []) S30) (bY (aN prog 3 t14 (.int .i64 5)) (dR (aD prog .eql 3 t14 (.int .i64 5)) fun t31=>
aE t31 (dR (aB prog 37 p3 (⟨S.next+8,S.heap⟩:St)) fun t32=>
C 58 [p0,t32] (⟨S.next+8,S.heap⟩:St) fun t33 S34=>
K (.tup []) S34) (bY (aN prog 3 t14 (.int .i64 6)) (dR (aD prog .eql 3 t14 (.int .i64 6)) fun t35=>
aE t35 (dR (aB prog 37 p3 (⟨S.next+8,S.heap⟩:St)) fun t36=>
C 59 [p0,t36] (⟨S.next+8,S.heap⟩:St) fun t37 S38=>
K (.tup []) S38) (K (.tup []) (⟨S.next+8,S.heap⟩:St)))))))))))))))
noncomputable def m19 (C:aT) (k:Nat) (a0 a1:V) (S:St) (K:KS):An:=
bY (aH (a1:V).cells) (dR (aY none S (.row 0 (a1:V).cells.length [(a1:V).cells])) fun r0=>
dR (aB prog 37 (.ptr r0.1 0 0 0) r0.2) fun t1=>
C 52 [a0,t1] r0.2 fun t2 S3=>
aE t2 (K (.tup []) S3) (dR (aA prog 37 (.ptr r0.1 0 0 0) 3) fun t39=>
dR (aB prog 3 t39 (⟨S3.next+8,S3.heap⟩:St)) fun t40=>
aZ a0 (dR (aA prog 88 a0 1) fun t41=>
dR (aA prog 24 t41 0) fun t42=>
dR (aB prog 3 t42 (⟨S3.next+8,S3.heap⟩:St)) fun t43=>
dR (aD prog .gtr 3 t40 t43) fun t44=>
aE t44 (dR (aA prog 37 (.ptr r0.1 0 0 0) 3) fun t45=>
dR (aB prog 3 t45 (⟨S3.next+8,S3.heap⟩:St)) fun t46=>
aZ a0 (dR (aA prog 88 a0 1) fun t47=>
dR (aA prog 24 t47 0) fun t48=>
dR (aV prog 3 t48 t46 (⟨S3.next+8,S3.heap⟩:St)) fun S49=>
aZ a0 (dR (aA prog 88 a0 1) fun t50=>
dR (aA prog 24 t50 1) fun t51=>
dR (aV prog 3 t51 (.int .i64 (-1)) S49) fun S52=>
aZ a0 (dR (aA prog 88 a0 2) fun t53=>
dR (aV prog 3 t53 (.int .i64 1) S52) fun S54=>
aZ a0 (dR (aA prog 88 a0 3) fun t55=>
dR (aV prog 3 t55 (.int .i64 (-1)) S54) fun S56=>
aBd C k K a0 (.ptr r0.1 0 0 0) S56))))) (aBd C k K a0 (.ptr r0.1 0 0 0) (⟨S3.next+8,S3.heap⟩:St)))))
theorem aP2:(fun (k:Nat) (a0 a1:V) (S:St) (K:KS)=>aC prog bD bE (k+1) 19 [a0,a1] S K)=fun k a0 a1 S K=>m19 (aC prog bD bE k) k a0 a1 S K:=by kernel_rfl
noncomputable def m27 (C:aT) (k:Nat) (a0:V) (S:St) (K:KS):An:=
aZ a0 (dR (aA prog 88 a0 10) fun t0=>
dR (aB prog 43 t0 S) fun t1=>
aZ a0 (dR (aA prog 88 a0 10) fun t2=>
dR (aV prog 43 t2 (.nils) S) fun S3=>
K t1 S3))
theorem aP3:(fun (k:Nat) (a0:V) (S:St) (K:KS)=>aC prog bD bE (k+1) 27 [a0] S K)=fun k a0 S K=>m27 (aC prog bD bE k) k a0 S K:=by kernel_rfl
noncomputable def m33 (C:aT) (k:Nat) (a0:V) (S:St) (K:KS):An:=
bY (aH (a0:V).cells) (dR (aY none S (.row 0 (a0:V).cells.length [(a0:V).cells])) fun r0=>
dR (aB prog 24 (.ptr r0.1 0 0 0) r0.2) fun t1=>
C 67 [t1] r0.2 fun t2 S3=>
aE t2 (dR (aA prog 24 (.ptr r0.1 0 0 0) 5) fun t4=>
dR (aB prog 9 t4 S3) fun t5=>
bY (aN prog 9 t5 (.str [])) (dR (aD prog .eql 9 t5 (.str [])) fun t6=>
dR (aA prog 24 (.ptr r0.1 0 0 0) 2) fun t7=>
dR (aB prog 3 t7 S3) fun t8=>
bY (aN prog 3 t8 (.int .i64 0)) (dR (aD prog .eql 3 t8 (.int .i64 0)) fun t9=>
bY (aN prog 4 t6 t9) (dR (aD prog .eql 4 t6 t9) fun t10=>
aE t10 (dR (aA prog 24 (.ptr r0.1 0 0 0) 5) fun t11=>
dR (aB prog 9 t11 S3) fun t12=>
dR (dI prog 9 t12 S3) fun t13=>
dR (aD prog .leq 3 t13 (.int .i64 65536)) fun t14=>
K t14 S3) (K (.bool false) S3))))) (K (.bool false) S3))
theorem aP4:(fun (k:Nat) (a0:V) (S:St) (K:KS)=>aC prog bD bE (k+1) 33 [a0] S K)=fun k a0 S K=>m33 (aC prog bD bE k) k a0 S K:=by kernel_rfl
noncomputable def m34 (C:aT) (k:Nat) (a0:V) (S:St) (K:KS):An:=
dR (aD prog .rem 3 a0 (.int .i64 11)) fun t0=>
dR (aD prog .lss 3 t0 (.int .i64 0)) fun t1=>
aE t1 (dR (aD prog .add 3 t0 (.int .i64 11)) fun t2=>
dR (aD prog .add 3 (.int .i64 10) t2) fun t3=>
K t3 S) (dR (aD prog .add 3 (.int .i64 10) t0) fun t4=>
K t4 S)
theorem aP5:(fun (k:Nat) (a0:V) (S:St) (K:KS)=>aC prog bD bE (k+1) 34 [a0] S K)=fun k a0 S K=>m34 (aC prog bD bE k) k a0 S K:=by kernel_rfl
noncomputable def m35 (C:aT) (k:Nat) (a0:V) (S:St) (K:KS):An:=
bY (aH (a0:V).cells) (dR (aY none S (.row 0 (a0:V).cells.length [(a0:V).cells])) fun r0=>
dR (aY none r0.2 (.row 0 7 [[.int .i64 0,.int .i64 0,.int .i64 0,.int .i64 0,.int .i64 0,.str [],.nils]])) fun r1=>
dR (aA prog 24 (.ptr r0.1 0 0 0) 6) fun t2=>
dR (aB prog 22 t2 r1.2) fun t3=>
dR (cE prog 22 (.nils) t3 none r1.2) fun r4=>
dR (aA prog 24 (.ptr r0.1 0 0 0) 6) fun t5=>
dR (aV prog 22 t5 r4.1 r4.2) fun S6=>
dR (aB prog 24 (.ptr r0.1 0 0 0) S6) fun t7=>
dR (aV prog 24 (.ptr r1.1 0 0 0) t7 S6) fun S8=>
dR (aB prog 24 (.ptr r1.1 0 0 0) S8) fun t9=>
K t9 S8)
theorem aP6:(fun (k:Nat) (a0:V) (S:St) (K:KS)=>aC prog bD bE (k+1) 35 [a0] S K)=fun k a0 S K=>m35 (aC prog bD bE k) k a0 S K:=by kernel_rfl
noncomputable def m46 (C:aT) (k:Nat) (a0:V) (S:St) (K:KS):An:=
aZ a0 (dR (aA prog 88 a0 1) fun t0=>
dR (aA prog 24 t0 2) fun t1=>
dR (aB prog 3 t1 (⟨S.next+13,S.heap⟩:St)) fun t2=>
aZ a0 (dR (aA prog 88 a0 1) fun t3=>
dR (aA prog 24 t3 6) fun t4=>
dR (aB prog 22 t4 (⟨S.next+13,S.heap⟩:St)) fun t5=>
dR (dI prog 22 t5 (⟨S.next+13,S.heap⟩:St)) fun t6=>
dR (aD prog .add 3 t2 t6) fun t7=>
K t7 (⟨S.next+13,S.heap⟩:St)))
theorem aP7:(fun (k:Nat) (a0:V) (S:St) (K:KS)=>aC prog bD bE (k+1) 46 [a0] S K)=fun k a0 S K=>m46 (aC prog bD bE k) k a0 S K:=by kernel_rfl
noncomputable def m47 (C:aT) (k:Nat) (a0:V) (S:St) (K:KS):An:=
aZ a0 (dR (aA prog 88 a0 1) fun t0=>
dR (aB prog 24 t0 S) fun t1=>
C 49 [t1] S fun t2 S3=>
qY t2 0 fun t4=>
qY t2 1 fun t5=>
K t4 S3)
theorem aP8:(fun (k:Nat) (a0:V) (S:St) (K:KS)=>aC prog bD bE (k+1) 47 [a0] S K)=fun k a0 S K=>m47 (aC prog bD bE k) k a0 S K:=by kernel_rfl
noncomputable def aBe (C:aT) (k:Nat) (K:KS) (p0 p10 p11:V) (vs:List V) (S:St) (again0:List V→St→An):An:=
oL vs fun x12 vs=>
dR (aD prog .lss 3 x12 p11) fun t6=>
aE t6 (dR (bA prog 68 p10 x12) fun t7=>
dR (aB prog 3 t7 S) fun t8=>
C 83 [p0,t8] S fun t9 S10=>
dR (aD prog .add 3 x12 (.int .i64 1)) fun t11=>
again0 [t11] S10) (K (.tup []) S)
noncomputable def m48 (C:aT) (k:Nat) (a0:V) (S:St) (K:KS):An:=
aZ a0 (dR (aA prog 88 a0 2) fun t0=>
dR (aB prog 3 t0 S) fun t1=>
bY (aN prog 3 t1 (.int .i64 3)) (dR (aD prog .neq 3 t1 (.int .i64 3)) fun t2=>
aE t2 (K (.tup []) S) (C 82 [a0] S fun t3 S4=>
dR (dI prog 68 t3 S4) fun t5=>
cW k [(.int .i64 0)] S4 (aBe C k K a0 t3 t5))))
theorem aP9:(fun (k:Nat) (a0:V) (S:St) (K:KS)=>aC prog bD bE (k+1) 48 [a0] S K)=fun k a0 S K=>m48 (aC prog bD bE k) k a0 S K:=by kernel_rfl
noncomputable def wQ (C:aT) (k:Nat) (K:KS) (p1:V) (vs:List V) (S:St) (again0:List V→St→An):An:=
oL vs fun x2 vs=>
oL vs fun x3 vs=>
oL vs fun x4 vs=>
dR (aD prog .geq 3 x4 (.int .i64 0)) fun t5=>
aE t5 (dR (aA prog 24 p1 6) fun t6=>
dR (aB prog 22 t6 S) fun t7=>
dR (bA prog 22 t7 x4) fun t8=>
dR (aA prog 59 t8 1) fun t9=>
dR (aB prog 3 t9 S) fun t10=>
bY (aN prog 3 t10 (.int .i64 0)) (dR (aD prog .neq 3 t10 (.int .i64 0)) fun t11=>
aE t11 (dR (aA prog 24 p1 6) fun t12=>
dR (aB prog 22 t12 (⟨S.next+13,S.heap⟩:St)) fun t13=>
dR (bA prog 22 t13 x4) fun t14=>
dR (aA prog 59 t14 1) fun t15=>
dR (aB prog 3 t15 (⟨S.next+13,S.heap⟩:St)) fun t16=>
dR (aA prog 24 p1 2) fun t17=>
dR (aB prog 3 t17 (⟨S.next+13,S.heap⟩:St)) fun t18=>
dR (aD prog .add 3 t18 x4) fun t19=>
dR (aD prog .add 3 t19 (.int .i64 1)) fun t20=>
K (.tup [t16,t20]) (⟨S.next+13,S.heap⟩:St)) (dR (aD prog .sub 3 x4 (.int .i64 1)) fun t21=>
again0 [x2,x3,t21] S))) (dR (aA prog 24 p1 4) fun t22=>
dR (aB prog 3 t22 (⟨S.next+6,S.heap⟩:St)) fun t23=>
dR (aA prog 24 p1 2) fun t24=>
dR (aB prog 3 t24 (⟨S.next+6,S.heap⟩:St)) fun t25=>
K (.tup [t23,t25]) (⟨S.next+6,S.heap⟩:St))
noncomputable def m49 (C:aT) (k:Nat) (a0:V) (S:St) (K:KS):An:=
bY (aH (a0:V).cells) (dR (aY none S (.row 0 (a0:V).cells.length [(a0:V).cells])) fun r0=>
dR (aA prog 24 (.ptr r0.1 0 0 0) 6) fun t1=>
dR (aB prog 22 t1 r0.2) fun t2=>
dR (dI prog 22 t2 r0.2) fun t3=>
dR (aD prog .sub 3 t3 (.int .i64 1)) fun t4=>
cW k [(.int .i64 0),(.int .i64 0),t4] r0.2 (wQ C k K (.ptr r0.1 0 0 0)))
theorem aPa:(fun (k:Nat) (a0:V) (S:St) (K:KS)=>aC prog bD bE (k+1) 49 [a0] S K)=fun k a0 S K=>m49 (aC prog bD bE k) k a0 S K:=by kernel_rfl
noncomputable def m50 (C:aT) (k:Nat) (a0 a1:V) (S:St) (K:KS):An:=
dR (aD prog .geq 3 a1 (.int .i64 0)) fun t0=>
aE t0 (dR (aD prog .lss 3 a1 (.int .i64 7)) fun t1=>
aE t1 (dR (bP prog 3 96 a1 none S) fun r2=>
dR (aD prog .shr 3 a0 r2.1) fun t3=>
dR (aD prog .and 3 t3 (.int .i64 1)) fun t4=>
bY (aN prog 3 t4 (.int .i64 1)) (dR (aD prog .eql 3 t4 (.int .i64 1)) fun t5=>
K t5 r2.2)) (K (.bool false) S)) (K (.bool false) S)
theorem aPb:(fun (k:Nat) (a0 a1:V) (S:St) (K:KS)=>aC prog bD bE (k+1) 50 [a0,a1] S K)=fun k a0 a1 S K=>m50 (aC prog bD bE k) k a0 a1 S K:=by kernel_rfl
noncomputable def aBf (C:aT) (k:Nat) (K:KS) (p0 p46 p47:V) (vs:List V) (S:St) (again0:List V→St→An):An:=
oL vs fun x48 vs=>
dR (aD prog .lss 3 x48 p47) fun t34=>
aE t34 (dR (bA prog 68 p46 x48) fun t35=>
dR (aB prog 3 t35 S) fun t36=>
C 46 [p0] S fun t37 S38=>
C 46 [p0] S38 fun t39 S40=>
C 62 [p0,t39] S40 fun t41 S42=>
dR (bM prog 37 [(0,(.int .i64 1)),(2,t36),(4,t37),(5,t41)]) fun t43=>
C 86 [p0,t43] S42 fun t44 S45=>
dR (aD prog .add 3 x48 (.int .i64 1)) fun t46=>
again0 [t46] S45) (K (.tup []) S)
noncomputable def m51 (C:aT) (k:Nat) (a0:V) (S:St) (K:KS):An:=
aZ a0 (dR (aA prog 88 a0 1) fun t0=>
dR (aA prog 24 t0 0) fun t1=>
dR (aB prog 3 t1 S) fun t2=>
dR (aD prog .add 3 t2 (.int .i64 1)) fun t3=>
aZ a0 (dR (aA prog 88 a0 1) fun t4=>
dR (aA prog 24 t4 0) fun t5=>
dR (aV prog 3 t5 t3 S) fun S6=>
aZ a0 (dR (aA prog 88 a0 0) fun t7=>
dR (aB prog 3 t7 (⟨S6.next+27,S6.heap⟩:St)) fun t8=>
aZ a0 (dR (aA prog 88 a0 0) fun t9=>
dR (aB prog 3 t9 (⟨S6.next+27,S6.heap⟩:St)) fun t10=>
dR (bP prog 3 96 t10 (some (S6.next+12)) (⟨S6.next+27,S6.heap⟩:St)) fun r11=>
dR (aD prog .shl 3 (.int .i64 1) r11.1) fun t12=>
aZ a0 (dR (aA prog 88 a0 1) fun t13=>
dR (aA prog 24 t13 1) fun t14=>
dR (aV prog 3 t14 t8 r11.2) fun S15=>
aZ a0 (dR (aA prog 88 a0 2) fun t16=>
dR (aV prog 3 t16 (.int .i64 2) S15) fun S17=>
aZ a0 (dR (aA prog 88 a0 3) fun t18=>
dR (aV prog 3 t18 (.int .i64 (-1)) S17) fun S19=>
aZ a0 (dR (aA prog 88 a0 7) fun t20=>
dR (aV prog 3 t20 t12 S19) fun S21=>
aZ a0 (dR (aA prog 88 a0 7) fun t22=>
dR (aB prog 3 t22 (⟨S21.next+7,S21.heap⟩:St)) fun t23=>
C 47 [a0] (⟨S21.next+7,S21.heap⟩:St) fun t24 S25=>
dR (aB prog 3 t22 S25) fun t26=>
bY (cV t23 t26) (C 84 [t24,t23] S25 fun t27 S28=>
aE t27 (C 85 [a0] S28 fun t29 S30=>
K (.tup []) S30) (C 82 [a0] S28 fun t31 S32=>
dR (dI prog 68 t31 S32) fun t33=>
cW k [(.int .i64 0)] S32 (aBf C k K a0 t31 t33))))))))))))
theorem aPc:(fun (k:Nat) (a0:V) (S:St) (K:KS)=>aC prog bD bE (k+1) 51 [a0] S K)=fun k a0 S K=>m51 (aC prog bD bE k) k a0 S K:=by kernel_rfl
noncomputable def m52 (C:aT) (k:Nat) (a0 a1:V) (S:St) (K:KS):An:=
bY (aH (a1:V).cells) (dR (aY none S (.row 0 (a1:V).cells.length [(a1:V).cells])) fun r0=>
dR (aB prog 37 (.ptr r0.1 0 0 0) (⟨r0.2.next+12,r0.2.heap⟩:St)) fun t1=>
C 87 [t1] (⟨r0.2.next+12,r0.2.heap⟩:St) fun t2 S3=>
dR (yB .not t2) fun t4=>
aE t4 (K (.bool true) S3) (dR (aA prog 37 (.ptr r0.1 0 0 0) 2) fun t5=>
dR (aB prog 3 t5 S3) fun t6=>
aZ a0 (dR (aA prog 88 a0 0) fun t7=>
dR (aB prog 3 t7 S3) fun t8=>
bY (aN prog 3 t6 t8) (dR (aD prog .neq 3 t6 t8) fun t9=>
aE t9 (K (.bool true) S3) (dR (aA prog 37 (.ptr r0.1 0 0 0) 0) fun t10=>
dR (aB prog 3 t10 (⟨S3.next+30,S3.heap⟩:St)) fun t11=>
bY (aN prog 3 t11 (.int .i64 1)) (dR (aD prog .eql 3 t11 (.int .i64 1)) fun t12=>
aE t12 (aZ a0 (dR (aA prog 88 a0 2) fun t13=>
dR (aB prog 3 t13 (⟨S3.next+30,S3.heap⟩:St)) fun t14=>
bY (aN prog 3 t14 (.int .i64 3)) (dR (aD prog .eql 3 t14 (.int .i64 3)) fun t15=>
aE t15 (K (.bool true) (⟨S3.next+30,S3.heap⟩:St)) (aZ a0 (dR (aA prog 88 a0 3) fun t16=>
dR (aB prog 3 t16 (⟨S3.next+30,S3.heap⟩:St)) fun t17=>
bY (aN prog 3 t17 (.int .i64 (-1))) (dR (aD prog .neq 3 t17 (.int .i64 (-1))) fun t18=>
aE t18 (aZ a0 (dR (aA prog 88 a0 5) fun t19=>
dR (aB prog 3 t19 (⟨S3.next+30,S3.heap⟩:St)) fun t20=>
aZ a0 (dR (aA prog 88 a0 6) fun t21=>
dR (aB prog 3 t21 (⟨S3.next+30,S3.heap⟩:St)) fun t22=>
dR (aD prog .sub 3 t20 t22) fun t23=>
dR (aD prog .lss 3 t23 (.int .i64 10)) fun t24=>
K t24 (⟨S3.next+30,S3.heap⟩:St)))) (K (.bool false) (⟨S3.next+30,S3.heap⟩:St)))))))) (K (.bool false) (⟨S3.next+30,S3.heap⟩:St))))))))
theorem aPd:(fun (k:Nat) (a0 a1:V) (S:St) (K:KS)=>aC prog bD bE (k+1) 52 [a0,a1] S K)=fun k a0 a1 S K=>m52 (aC prog bD bE k) k a0 a1 S K:=by kernel_rfl
noncomputable def wR (C:aT) (k:Nat) (K:KS) (p0 p3 p13:V) (S:St):An:=
aE p13 (dR (aA prog 37 p3 1) fun t9=>
dR (aB prog 3 t9 (⟨S.next+7,S.heap⟩:St)) fun t10=>
C 46 [p0] (⟨S.next+7,S.heap⟩:St) fun t11 S12=>
dR (aB prog 3 t9 S12) fun t13=>
bY (cV t10 t13) (dR (bM prog 37 [(0,(.int .i64 4)),(2,t10),(4,t11)]) fun t14=>
C 86 [p0,t14] S12 fun t15 S16=>
K (.tup []) S16)) (K (.tup []) S)
noncomputable def m53 (C:aT) (k:Nat) (a0 a1:V) (S:St) (K:KS):An:=
bY (aH (a1:V).cells) (dR (aY none S (.row 0 (a1:V).cells.length [(a1:V).cells])) fun r0=>
dR (aA prog 37 (.ptr r0.1 0 0 0) 0) fun t1=>
dR (aB prog 3 t1 r0.2) fun t2=>
bY (aN prog 3 t2 (.int .i64 1)) (dR (aD prog .eql 3 t2 (.int .i64 1)) fun t3=>
aE t3 (dR (aA prog 37 (.ptr r0.1 0 0 0) 1) fun t4=>
dR (aB prog 3 t4 r0.2) fun t5=>
dR (bM prog 37 [(0,(.int .i64 2)),(2,t5)]) fun t6=>
C 86 [a0,t6] r0.2 fun t7 S8=>
K (.tup []) S8) (bY (aN prog 3 t2 (.int .i64 3)) (dR (aD prog .eql 3 t2 (.int .i64 3)) fun t17=>
aE t17 (wR C k K a0 (.ptr r0.1 0 0 0) (.bool true) r0.2) (bY (aN prog 3 t2 (.int .i64 5)) (dR (aD prog .eql 3 t2 (.int .i64 5)) fun t18=>
wR C k K a0 (.ptr r0.1 0 0 0) t18 r0.2))))))
theorem aPe:(fun (k:Nat) (a0 a1:V) (S:St) (K:KS)=>aC prog bD bE (k+1) 53 [a0,a1] S K)=fun k a0 a1 S K=>m53 (aC prog bD bE k) k a0 a1 S K:=by kernel_rfl
noncomputable def aBg (C:aT) (k:Nat) (K:KS) (p0 p3 p5:V) (S:St):An:=
dR (aA prog 37 p3 1) fun t5=>
dR (aB prog 3 t5 S) fun t6=>
dR (bM prog 37 [(0,(.int .i64 2)),(2,t6),(10,p5)]) fun t7=>
C 86 [p0,t7] S fun t8 S9=>
K (.tup []) S9
noncomputable def gK (C:aT) (k:Nat) (K:KS) (p0 p3 p5:V) (S:St):An:=
aE p5 (dR (aA prog 37 p3 1) fun t10=>
dR (aB prog 3 t10 (⟨S.next+15,S.heap⟩:St)) fun t11=>
aZ p0 (dR (aA prog 88 p0 5) fun t12=>
dR (aB prog 3 t12 (⟨S.next+15,S.heap⟩:St)) fun t13=>
aZ p0 (dR (aA prog 88 p0 1) fun t14=>
dR (aA prog 24 t14 1) fun t15=>
dR (aV prog 3 t15 t11 (⟨S.next+15,S.heap⟩:St)) fun S16=>
aZ p0 (dR (aA prog 88 p0 6) fun t17=>
dR (aV prog 3 t17 t13 S16) fun S18=>
aBg C k K p0 p3 p5 S18)))) (aBg C k K p0 p3 p5 S)
noncomputable def m54 (C:aT) (k:Nat) (a0 a1:V) (S:St) (K:KS):An:=
bY (aH (a1:V).cells) (dR (aY none S (.row 0 (a1:V).cells.length [(a1:V).cells])) fun r0=>
C 46 [a0] r0.2 fun t1 S2=>
C 62 [a0,t1] S2 fun t3 S4=>
aZ a0 (dR (aA prog 88 a0 1) fun t19=>
dR (aA prog 24 t19 1) fun t20=>
dR (aB prog 3 t20 (⟨S4.next+36,S4.heap⟩:St)) fun t21=>
bY (aN prog 3 t21 (.int .i64 (-1))) (dR (aD prog .eql 3 t21 (.int .i64 (-1))) fun t22=>
aE t22 (dR (aA prog 37 (.ptr r0.1 0 0 0) 5) fun t23=>
dR (aB prog 3 t23 (⟨S4.next+36,S4.heap⟩:St)) fun t24=>
dR (aD prog .gtr 3 t24 t3) fun t25=>
aE t25 (gK C k K a0 (.ptr r0.1 0 0 0) (.bool true) (⟨S4.next+36,S4.heap⟩:St)) (dR (aA prog 37 (.ptr r0.1 0 0 0) 5) fun t26=>
dR (aB prog 3 t26 (⟨S4.next+36,S4.heap⟩:St)) fun t27=>
bY (aN prog 3 t27 t3) (dR (aD prog .eql 3 t27 t3) fun t28=>
aE t28 (dR (aA prog 37 (.ptr r0.1 0 0 0) 4) fun t29=>
dR (aB prog 3 t29 (⟨S4.next+36,S4.heap⟩:St)) fun t30=>
C 46 [a0] (⟨S4.next+36,S4.heap⟩:St) fun t31 S32=>
dR (aB prog 3 t29 S32) fun t33=>
bY (cV t30 t33) (dR (aD prog .geq 3 t30 t31) fun t34=>
gK C k K a0 (.ptr r0.1 0 0 0) t34 S32)) (gK C k K a0 (.ptr r0.1 0 0 0) (.bool false) (⟨S4.next+36,S4.heap⟩:St))))) (aZ a0 (dR (aA prog 88 a0 1) fun t35=>
dR (aA prog 24 t35 1) fun t36=>
dR (aB prog 3 t36 (⟨S4.next+36,S4.heap⟩:St)) fun t37=>
dR (aA prog 37 (.ptr r0.1 0 0 0) 1) fun t38=>
dR (aB prog 3 t38 (⟨S4.next+36,S4.heap⟩:St)) fun t39=>
bY (aN prog 3 t37 t39) (dR (aD prog .eql 3 t37 t39) fun t40=>
aE t40 (dR (aA prog 37 (.ptr r0.1 0 0 0) 5) fun t41=>
dR (aB prog 3 t41 (⟨S4.next+36,S4.heap⟩:St)) fun t42=>
dR (aD prog .gtr 3 t42 t3) fun t43=>
aE t43 (gK C k K a0 (.ptr r0.1 0 0 0) (.bool true) (⟨S4.next+36,S4.heap⟩:St)) (dR (aA prog 37 (.ptr r0.1 0 0 0) 5) fun t44=>
dR (aB prog 3 t44 (⟨S4.next+36,S4.heap⟩:St)) fun t45=>
bY (aN prog 3 t45 t3) (dR (aD prog .eql 3 t45 t3) fun t46=>
aE t46 (dR (aA prog 37 (.ptr r0.1 0 0 0) 4) fun t47=>
dR (aB prog 3 t47 (⟨S4.next+36,S4.heap⟩:St)) fun t48=>
C 46 [a0] (⟨S4.next+36,S4.heap⟩:St) fun t49 S50=>
dR (aB prog 3 t47 S50) fun t51=>
bY (cV t48 t51) (dR (aD prog .geq 3 t48 t49) fun t52=>
gK C k K a0 (.ptr r0.1 0 0 0) t52 S50)) (gK C k K a0 (.ptr r0.1 0 0 0) (.bool false) (⟨S4.next+36,S4.heap⟩:St))))) (gK C k K a0 (.ptr r0.1 0 0 0) (.bool false) (⟨S4.next+36,S4.heap⟩:St))))))))
theorem aPf:(fun (k:Nat) (a0 a1:V) (S:St) (K:KS)=>aC prog bD bE (k+1) 54 [a0,a1] S K)=fun k a0 a1 S K=>m54 (aC prog bD bE k) k a0 a1 S K:=by kernel_rfl
noncomputable def m55 (C:aT) (k:Nat) (a0 a1:V) (S:St) (K:KS):An:=
bY (aH (a1:V).cells) (dR (aY none S (.row 0 (a1:V).cells.length [(a1:V).cells])) fun r0=>
aZ a0 (dR (aA prog 88 a0 2) fun t1=>
dR (aB prog 3 t1 r0.2) fun t2=>
bY (aN prog 3 t2 (.int .i64 2)) (dR (aD prog .neq 3 t2 (.int .i64 2)) fun t3=>
aE t3 (K (.tup []) r0.2) (dR (aA prog 37 (.ptr r0.1 0 0 0) 10) fun t4=>
dR (aB prog 4 t4 r0.2) fun t5=>
dR (yB .not t5) fun t6=>
aE t6 (K (.tup []) r0.2) (aZ a0 (dR (aA prog 88 a0 7) fun t7=>
dR (aB prog 3 t7 (⟨r0.2.next+12,r0.2.heap⟩:St)) fun t8=>
dR (aA prog 37 (.ptr r0.1 0 0 0) 1) fun t9=>
dR (aB prog 3 t9 (⟨r0.2.next+12,r0.2.heap⟩:St)) fun t10=>
dR (bP prog 3 96 t10 (some (r0.2.next+6)) (⟨r0.2.next+12,r0.2.heap⟩:St)) fun r11=>
dR (aD prog .shl 3 (.int .i64 1) r11.1) fun t12=>
dR (aD prog .or 3 t8 t12) fun t13=>
aZ a0 (dR (aA prog 88 a0 7) fun t14=>
dR (aV prog 3 t14 t13 r11.2) fun S15=>
aZ a0 (dR (aA prog 88 a0 7) fun t16=>
dR (aB prog 3 t16 (⟨S15.next+7,S15.heap⟩:St)) fun t17=>
C 47 [a0] (⟨S15.next+7,S15.heap⟩:St) fun t18 S19=>
dR (aB prog 3 t16 S19) fun t20=>
bY (cV t17 t20) (C 84 [t18,t17] S19 fun t21 S22=>
aE t21 (C 85 [a0] S22 fun t23 S24=>
K (.tup []) S24) (K (.tup []) S22))))))))))
theorem aPg:(fun (k:Nat) (a0 a1:V) (S:St) (K:KS)=>aC prog bD bE (k+1) 55 [a0,a1] S K)=fun k a0 a1 S K=>m55 (aC prog bD bE k) k a0 a1 S K:=by kernel_rfl
noncomputable def sQ (C:aT) (k:Nat) (K:KS) (p0 p3 p4:V) (S:St):An:=
aZ p0 (dR (aA prog 88 p0 4) fun t35=>
dR (aB prog 3 t35 (⟨S.next+13,S.heap⟩:St)) fun t36=>
dR (aA prog 37 p3 6) fun t37=>
dR (aB prog 3 t37 (⟨S.next+13,S.heap⟩:St)) fun t38=>
dR (yF [t38,p4]) fun t39=>
dR (aC5 [t36,t39]) fun t40=>
aZ p0 (dR (aA prog 88 p0 4) fun t41=>
dR (aV prog 3 t41 t40 (⟨S.next+13,S.heap⟩:St)) fun S42=>
dR (aA prog 37 p3 1) fun t43=>
dR (aB prog 3 t43 S42) fun t44=>
dR (bM prog 37 [(0,(.int .i64 4)),(2,t44),(10,(.bool true)),(4,p4)]) fun t45=>
C 86 [p0,t45] S42 fun t46 S47=>
K (.tup []) S47))
noncomputable def sR (C:aT) (k:Nat) (K:KS) (again0:List V→St→An) (p0 p3 p4 p6 p7 p62 p63 p64 p94:V) (S:St):An:=
aE p94 (aZ p0 (dR (aA prog 88 p0 1) fun t60=>
dR (aA prog 24 t60 2) fun t61=>
dR (aB prog 3 t61 S) fun t62=>
dR (aD prog .sub 3 p7 t62) fun t63=>
dR (aD prog .gtr 3 t63 (.int .i64 200)) fun t64=>
aE t64 (sQ C k K p0 p3 p4 S) (aZ p0 (dR (aA prog 88 p0 1) fun t65=>
dR (aA prog 24 t65 6) fun t66=>
dR (aB prog 22 t66 (⟨S.next+22,S.heap⟩:St)) fun t67=>
aZ p0 (dR (aA prog 88 p0 1) fun t68=>
dR (aA prog 24 t68 2) fun t69=>
dR (aB prog 3 t69 (⟨S.next+22,S.heap⟩:St)) fun t70=>
dR (aD prog .sub 3 p7 t70) fun t71=>
dR (aD prog .sub 3 t71 (.int .i64 1)) fun t72=>
dR (dP prog 22 t67 none (some t72)) fun t73=>
dR (aB prog 59 p6 (⟨S.next+22,S.heap⟩:St)) fun t74=>
dR (bS prog 22 1 [(0,t74)] (some (S.next+16)) (⟨S.next+22,S.heap⟩:St)) fun r75=>
dR (cE prog 22 t73 r75.1 (some (S.next+17)) r75.2) fun r76=>
aZ p0 (dR (aA prog 88 p0 1) fun t77=>
dR (aA prog 24 t77 6) fun t78=>
dR (aV prog 22 t78 r76.1 r76.2) fun S79=>
dR (aD prog .add 3 p64 (.int .i64 1)) fun t80=>
again0 [p7,t80] S79)))))) (dR (aD prog .add 3 p64 (.int .i64 1)) fun t81=>
again0 [p7,t81] S)
noncomputable def wS (C:aT) (k:Nat) (K:KS) (p0 p3 p62 p63:V) (vs:List V) (S:St) (again0:List V→St→An):An:=
oL vs fun x4 vs=>
oL vs fun x64 vs=>
dR (aD prog .lss 3 x64 p63) fun t51=>
aE t51 (dR (bA prog 22 p62 x64) fun t52=>
dR (aB prog 59 t52 S) fun t53=>
dR (aY none S (.row 0 3 [[.int .i64 0,.int .i64 0,.str []]])) fun r54=>
dR (aV prog 59 (.ptr r54.1 0 0 0) t53 r54.2) fun S55=>
dR (aA prog 37 p3 4) fun t56=>
dR (aB prog 3 t56 S55) fun t57=>
dR (aD prog .add 3 t57 (.int .i64 1)) fun t58=>
dR (aD prog .add 3 t58 x64) fun t59=>
aZ p0 (dR (aA prog 88 p0 1) fun t82=>
dR (aA prog 24 t82 2) fun t83=>
dR (aB prog 3 t83 (⟨S55.next+21,S55.heap⟩:St)) fun t84=>
dR (aD prog .gtr 3 t59 t84) fun t85=>
aE t85 (C 46 [p0] (⟨S55.next+21,S55.heap⟩:St) fun t86 S87=>
dR (aD prog .gtr 3 t59 t86) fun t88=>
aE t88 (sR C k K again0 p0 p3 x4 (.ptr r54.1 0 0 0) t59 p62 p63 x64 (.bool true) S87) (dR (aA prog 59 (.ptr r54.1 0 0 0) 0) fun t89=>
dR (aB prog 3 t89 S87) fun t90=>
C 62 [p0,t59] S87 fun t91 S92=>
dR (aB prog 3 t89 S92) fun t93=>
bY (cV t90 t93) (bY (aN prog 3 t91 t90) (dR (aD prog .neq 3 t91 t90) fun t94=>
sR C k K again0 p0 p3 x4 (.ptr r54.1 0 0 0) t59 p62 p63 x64 t94 S92)))) (sR C k K again0 p0 p3 x4 (.ptr r54.1 0 0 0) t59 p62 p63 x64 (.bool false) (⟨S55.next+21,S55.heap⟩:St)))) (sQ C k K p0 p3 x4 S)
noncomputable def sS (C:aT) (k:Nat) (K:KS) (p0 p3 p50:V) (S:St):An:=
aE p50 (dR (aA prog 37 p3 1) fun t25=>
dR (aB prog 3 t25 S) fun t26=>
dR (aA prog 37 p3 4) fun t27=>
dR (aB prog 3 t27 S) fun t28=>
dR (aD prog .sub 3 t28 (.int .i64 1)) fun t29=>
dR (bM prog 37 [(0,(.int .i64 4)),(2,t26),(4,t29)]) fun t30=>
C 86 [p0,t30] S fun t31 S32=>
K (.tup []) S32) (dR (aA prog 37 p3 4) fun t33=>
dR (aB prog 3 t33 S) fun t34=>
dR (aA prog 37 p3 12) fun t48=>
dR (aB prog 22 t48 S) fun t49=>
dR (dI prog 22 t49 S) fun t50=>
cW k [t34,(.int .i64 0)] S (wS C k K p0 p3 t49 t50))
noncomputable def m56 (C:aT) (k:Nat) (a0 a1:V) (S:St) (K:KS):An:=
bY (aH (a1:V).cells) (dR (aY none S (.row 0 (a1:V).cells.length [(a1:V).cells])) fun r0=>
aZ a0 (dR (aA prog 88 a0 2) fun t1=>
dR (aB prog 3 t1 r0.2) fun t2=>
bY (aN prog 3 t2 (.int .i64 3)) (dR (aD prog .eql 3 t2 (.int .i64 3)) fun t3=>
aE t3 (K (.tup []) r0.2) (dR (aB prog 37 (.ptr r0.1 0 0 0) r0.2) fun t4=>
C 88 [a0,t4] r0.2 fun t5 S6=>
aE t5 (K (.tup []) S6) (dR (aA prog 37 (.ptr r0.1 0 0 0) 1) fun t7=>
dR (aB prog 3 t7 S6) fun t8=>
C 89 [a0,t8] S6 fun t9 S10=>
dR (aA prog 37 (.ptr r0.1 0 0 0) 4) fun t11=>
dR (aB prog 3 t11 (⟨S10.next+5,S10.heap⟩:St)) fun t12=>
C 46 [a0] (⟨S10.next+5,S10.heap⟩:St) fun t13 S14=>
dR (aB prog 3 t11 S14) fun t15=>
bY (cV t12 t15) (dR (aD prog .gtr 3 t12 t13) fun t16=>
aE t16 (dR (aA prog 37 (.ptr r0.1 0 0 0) 1) fun t17=>
dR (aB prog 3 t17 (⟨S14.next+7,S14.heap⟩:St)) fun t18=>
C 46 [a0] (⟨S14.next+7,S14.heap⟩:St) fun t19 S20=>
dR (aB prog 3 t17 S20) fun t21=>
bY (cV t18 t21) (dR (bM prog 37 [(0,(.int .i64 4)),(2,t18),(4,t19)]) fun t22=>
C 86 [a0,t22] S20 fun t23 S24=>
K (.tup []) S24)) (dR (aA prog 37 (.ptr r0.1 0 0 0) 4) fun t95=>
dR (aB prog 3 t95 (⟨S14.next+17,S14.heap⟩:St)) fun t96=>
aZ a0 (dR (aA prog 88 a0 1) fun t97=>
dR (aA prog 24 t97 2) fun t98=>
dR (aB prog 3 t98 (⟨S14.next+17,S14.heap⟩:St)) fun t99=>
dR (aD prog .geq 3 t96 t99) fun t100=>
aE t100 (dR (aA prog 37 (.ptr r0.1 0 0 0) 4) fun t101=>
dR (aB prog 3 t101 (⟨S14.next+17,S14.heap⟩:St)) fun t102=>
dR (aA prog 37 (.ptr r0.1 0 0 0) 5) fun t103=>
dR (aB prog 3 t103 (⟨S14.next+17,S14.heap⟩:St)) fun t104=>
C 62 [a0,t102] (⟨S14.next+17,S14.heap⟩:St) fun t105 S106=>
dR (aB prog 3 t103 S106) fun t107=>
bY (cV t104 t107) (bY (aN prog 3 t105 t104) (dR (aD prog .neq 3 t105 t104) fun t108=>
sS C k K a0 (.ptr r0.1 0 0 0) t108 S106))) (sS C k K a0 (.ptr r0.1 0 0 0) (.bool false) (⟨S14.next+17,S14.heap⟩:St))))))))))
theorem aPh:(fun (k:Nat) (a0 a1:V) (S:St) (K:KS)=>aC prog bD bE (k+1) 56 [a0,a1] S K)=fun k a0 a1 S K=>m56 (aC prog bD bE k) k a0 a1 S K:=by kernel_rfl
noncomputable def sT (C:aT) (k:Nat) (K:KS) (p0 p3 p78:V) (S:St):An:=
aE p78 (dR (aA prog 37 p3 1) fun t48=>
dR (aB prog 3 t48 S) fun t49=>
C 83 [p0,t49] S fun t50 S51=>
K (.tup []) S51) (K (.tup []) S)
noncomputable def m57 (C:aT) (k:Nat) (a0 a1:V) (S:St) (K:KS):An:=
bY (aH (a1:V).cells) (dR (aY none S (.row 0 (a1:V).cells.length [(a1:V).cells])) fun r0=>
aZ a0 (dR (aA prog 88 a0 2) fun t1=>
dR (aB prog 3 t1 (⟨r0.2.next+12,r0.2.heap⟩:St)) fun t2=>
bY (aN prog 3 t2 (.int .i64 3)) (dR (aD prog .neq 3 t2 (.int .i64 3)) fun t3=>
aE t3 (K (.tup []) (⟨r0.2.next+12,r0.2.heap⟩:St)) (dR (aA prog 37 (.ptr r0.1 0 0 0) 4) fun t4=>
dR (aB prog 3 t4 (⟨r0.2.next+12,r0.2.heap⟩:St)) fun t5=>
C 46 [a0] (⟨r0.2.next+12,r0.2.heap⟩:St) fun t6 S7=>
dR (aB prog 3 t4 S7) fun t8=>
bY (cV t5 t8) (dR (aD prog .gtr 3 t5 t6) fun t9=>
aE t9 (K (.tup []) S7) (dR (aA prog 37 (.ptr r0.1 0 0 0) 1) fun t10=>
dR (aB prog 3 t10 (⟨S7.next+7,S7.heap⟩:St)) fun t11=>
aZ a0 (dR (aA prog 88 a0 8) fun t12=>
dR (bA prog 85 t12 t11) fun t13=>
dR (aA prog 37 (.ptr r0.1 0 0 0) 10) fun t14=>
dR (aB prog 4 t14 (⟨S7.next+7,S7.heap⟩:St)) fun t15=>
dR (yB .not t15) fun t16=>
aE t16 (aZ t13 (dR (aA prog 84 t13 0) fun t17=>
dR (aB prog 3 t17 (⟨S7.next+26,S7.heap⟩:St)) fun t18=>
dR (aD prog .sub 3 t18 (.int .i64 1)) fun t19=>
dR (aA prog 37 (.ptr r0.1 0 0 0) 4) fun t20=>
dR (aB prog 3 t20 (⟨S7.next+26,S7.heap⟩:St)) fun t21=>
dR (aD prog .add 3 t21 (.int .i64 1)) fun t22=>
dR (yF [t19,t22]) fun t23=>
aZ t13 (dR (aA prog 84 t13 1) fun t24=>
dR (aB prog 3 t24 (⟨S7.next+26,S7.heap⟩:St)) fun t25=>
dR (aD prog .add 3 t25 (.int .i64 1)) fun t26=>
dR (aC5 [t23,t26]) fun t27=>
aZ t13 (dR (aA prog 84 t13 0) fun t28=>
dR (aV prog 3 t28 t27 (⟨S7.next+26,S7.heap⟩:St)) fun S29=>
dR (aA prog 37 (.ptr r0.1 0 0 0) 1) fun t30=>
dR (aB prog 3 t30 S29) fun t31=>
C 83 [a0,t31] S29 fun t32 S33=>
K (.tup []) S33)))) (dR (aA prog 37 (.ptr r0.1 0 0 0) 4) fun t34=>
dR (aB prog 3 t34 (⟨S7.next+14,S7.heap⟩:St)) fun t35=>
aZ t13 (dR (aA prog 84 t13 1) fun t36=>
dR (aB prog 3 t36 (⟨S7.next+14,S7.heap⟩:St)) fun t37=>
dR (aD prog .leq 3 t35 t37) fun t38=>
aE t38 (K (.tup []) (⟨S7.next+14,S7.heap⟩:St)) (dR (aA prog 37 (.ptr r0.1 0 0 0) 4) fun t39=>
dR (aB prog 3 t39 (⟨S7.next+14,S7.heap⟩:St)) fun t40=>
dR (aD prog .add 3 t40 (.int .i64 1)) fun t41=>
dR (aA prog 37 (.ptr r0.1 0 0 0) 4) fun t42=>
dR (aB prog 3 t42 (⟨S7.next+14,S7.heap⟩:St)) fun t43=>
dR (bM prog 84 [(0,t41),(1,t43)]) fun t44=>
aZ t13 (dR (aV prog 84 t13 t44 (⟨S7.next+14,S7.heap⟩:St)) fun S45=>
C 90 [a0] S45 fun t46 S47=>
aZ a0 (dR (aA prog 88 a0 2) fun t52=>
dR (aB prog 3 t52 (⟨S47.next+14,S47.heap⟩:St)) fun t53=>
bY (aN prog 3 t53 (.int .i64 3)) (dR (aD prog .eql 3 t53 (.int .i64 3)) fun t54=>
aE t54 (aZ t13 (dR (aA prog 84 t13 0) fun t55=>
dR (aB prog 3 t55 (⟨S47.next+14,S47.heap⟩:St)) fun t56=>
C 46 [a0] (⟨S47.next+14,S47.heap⟩:St) fun t57 S58=>
dR (aB prog 3 t55 S58) fun t59=>
bY (cV t56 t59) (dR (aD prog .leq 3 t56 t57) fun t60=>
sT C k K a0 (.ptr r0.1 0 0 0) t60 S58))) (sT C k K a0 (.ptr r0.1 0 0 0) (.bool false) (⟨S47.next+14,S47.heap⟩:St)))))))))))))))
theorem aPi:(fun (k:Nat) (a0 a1:V) (S:St) (K:KS)=>aC prog bD bE (k+1) 57 [a0,a1] S K)=fun k a0 a1 S K=>m57 (aC prog bD bE k) k a0 a1 S K:=by kernel_rfl
noncomputable def aBh (C:aT) (k:Nat) (K:KS) (p0 p3 p4:V) (S:St):An:=
aZ p4 (dR (aA prog 102 p4 3) fun t29=>
dR (aB prog 74 t29 (⟨S.next+10,S.heap⟩:St)) fun t30=>
dR (dI prog 74 t30 (⟨S.next+10,S.heap⟩:St)) fun t31=>
aZ p4 (dR (aA prog 102 p4 2) fun t32=>
dR (aB prog 3 t32 (⟨S.next+10,S.heap⟩:St)) fun t33=>
dR (aD prog .lss 3 t31 t33) fun t34=>
aE t34 (dR (aA prog 37 p3 1) fun t35=>
dR (aB prog 3 t35 (⟨S.next+22,S.heap⟩:St)) fun t36=>
dR (aA prog 37 p3 4) fun t37=>
dR (aB prog 3 t37 (⟨S.next+22,S.heap⟩:St)) fun t38=>
aZ p4 (dR (aA prog 102 p4 3) fun t39=>
dR (aB prog 74 t39 (⟨S.next+22,S.heap⟩:St)) fun t40=>
dR (dI prog 74 t40 (⟨S.next+22,S.heap⟩:St)) fun t41=>
dR (bM prog 37 [(0,(.int .i64 6)),(2,t36),(4,t38),(8,t41)]) fun t42=>
C 86 [p0,t42] (⟨S.next+22,S.heap⟩:St) fun t43 S44=>
K (.tup []) S44)) (dR (aB prog 37 p3 (⟨S.next+18,S.heap⟩:St)) fun t45=>
aZ p4 (dR (aA prog 102 p4 3) fun t46=>
dR (aB prog 74 t46 (⟨S.next+18,S.heap⟩:St)) fun t47=>
dR (bP prog 74 9 t47 (some ((⟨S.next+10,S.heap⟩:St).next+6)) (⟨S.next+18,S.heap⟩:St)) fun r48=>
C 91 [p0,t45,r48.1] r48.2 fun t49 S50=>
dR (aA prog 37 p3 1) fun t51=>
dR (aB prog 3 t51 S50) fun t52=>
dR (aA prog 37 p3 4) fun t53=>
dR (aB prog 3 t53 S50) fun t54=>
dR (bM prog 37 [(0,(.int .i64 4)),(2,t52),(10,(.bool true)),(4,t54)]) fun t55=>
C 86 [p0,t55] S50 fun t56 S57=>
K (.tup []) S57))))
noncomputable def lE (C:aT) (k:Nat) (K:KS) (p0 p3 p4 p74:V) (S:St):An:=
aE p74 (dR (aA prog 37 p3 1) fun t22=>
dR (aB prog 3 t22 S) fun t23=>
dR (aA prog 37 p3 4) fun t24=>
dR (aB prog 3 t24 S) fun t25=>
dR (bM prog 37 [(0,(.int .i64 6)),(2,t23),(4,t25)]) fun t26=>
C 86 [p0,t26] S fun t27 S28=>
K (.tup []) S28) (dR (aA prog 37 p3 8) fun t58=>
dR (aB prog 3 t58 (⟨S.next+8,S.heap⟩:St)) fun t59=>
aZ p4 (dR (aA prog 102 p4 3) fun t60=>
dR (aB prog 74 t60 (⟨S.next+8,S.heap⟩:St)) fun t61=>
dR (dI prog 74 t61 (⟨S.next+8,S.heap⟩:St)) fun t62=>
bY (aN prog 3 t59 t62) (dR (aD prog .eql 3 t59 t62) fun t63=>
aE t63 (aZ p4 (dR (aA prog 102 p4 3) fun t64=>
dR (aB prog 74 t64 (⟨S.next+19,S.heap⟩:St)) fun t65=>
dR (aA prog 37 p3 11) fun t66=>
dR (aB prog 9 t66 (⟨S.next+19,S.heap⟩:St)) fun t67=>
dR (cE prog 74 t65 t67 (some ((⟨S.next+8,S.heap⟩:St).next+7)) (⟨S.next+19,S.heap⟩:St)) fun r68=>
aZ p4 (dR (aA prog 102 p4 3) fun t69=>
dR (aV prog 74 t69 r68.1 r68.2) fun S70=>
aBh C k K p0 p3 p4 S70))) (aBh C k K p0 p3 p4 (⟨S.next+8,S.heap⟩:St)))))
noncomputable def wU (C:aT) (k:Nat) (K:KS) (p0 p3:V) (S:St):An:=
aZ p0 (dR (aA prog 88 p0 9) fun t20=>
dR (aB prog 86 t20 S) fun t21=>
bY (aN prog 86 t21 (.nilp)) (dR (aD prog .eql 86 t21 (.nilp)) fun t71=>
aE t71 (lE C k K p0 p3 t21 (.bool true) (⟨S.next+29,S.heap⟩:St)) (aZ t21 (dR (aA prog 102 t21 0) fun t72=>
dR (aB prog 3 t72 (⟨S.next+29,S.heap⟩:St)) fun t73=>
dR (aA prog 37 p3 4) fun t74=>
dR (aB prog 3 t74 (⟨S.next+29,S.heap⟩:St)) fun t75=>
bY (aN prog 3 t73 t75) (dR (aD prog .neq 3 t73 t75) fun t76=>
aE t76 (lE C k K p0 p3 t21 (.bool true) (⟨S.next+29,S.heap⟩:St)) (aZ t21 (dR (aA prog 102 t21 1) fun t77=>
dR (aB prog 3 t77 (⟨S.next+29,S.heap⟩:St)) fun t78=>
dR (aA prog 37 p3 5) fun t79=>
dR (aB prog 3 t79 (⟨S.next+29,S.heap⟩:St)) fun t80=>
bY (aN prog 3 t78 t80) (dR (aD prog .neq 3 t78 t80) fun t81=>
aE t81 (lE C k K p0 p3 t21 (.bool true) (⟨S.next+29,S.heap⟩:St)) (aZ t21 (dR (aA prog 102 t21 2) fun t82=>
dR (aB prog 3 t82 (⟨S.next+29,S.heap⟩:St)) fun t83=>
dR (aA prog 37 p3 9) fun t84=>
dR (aB prog 3 t84 (⟨S.next+29,S.heap⟩:St)) fun t85=>
bY (aN prog 3 t83 t85) (dR (aD prog .neq 3 t83 t85) fun t86=>
lE C k K p0 p3 t21 t86 (⟨S.next+29,S.heap⟩:St))))))))))))
noncomputable def m58 (C:aT) (k:Nat) (a0 a1:V) (S:St) (K:KS):An:=
bY (aH (a1:V).cells) (dR (aY none S (.row 0 (a1:V).cells.length [(a1:V).cells])) fun r0=>
aZ a0 (dR (aA prog 88 a0 2) fun t1=>
dR (aB prog 3 t1 r0.2) fun t2=>
bY (aN prog 3 t2 (.int .i64 3)) (dR (aD prog .eql 3 t2 (.int .i64 3)) fun t3=>
aE t3 (K (.tup []) r0.2) (dR (aA prog 37 (.ptr r0.1 0 0 0) 1) fun t4=>
dR (aB prog 3 t4 r0.2) fun t5=>
C 89 [a0,t5] r0.2 fun t6 S7=>
dR (aA prog 37 (.ptr r0.1 0 0 0) 4) fun t8=>
dR (aB prog 3 t8 (⟨S7.next+7,S7.heap⟩:St)) fun t9=>
aZ a0 (dR (aA prog 88 a0 4) fun t10=>
dR (aB prog 3 t10 (⟨S7.next+7,S7.heap⟩:St)) fun t11=>
dR (aD prog .leq 3 t9 t11) fun t12=>
aE t12 (dR (aA prog 37 (.ptr r0.1 0 0 0) 1) fun t13=>
dR (aB prog 3 t13 (⟨S7.next+7,S7.heap⟩:St)) fun t14=>
dR (aA prog 37 (.ptr r0.1 0 0 0) 4) fun t15=>
dR (aB prog 3 t15 (⟨S7.next+7,S7.heap⟩:St)) fun t16=>
dR (bM prog 37 [(0,(.int .i64 4)),(2,t14),(10,(.bool true)),(4,t16)]) fun t17=>
C 86 [a0,t17] (⟨S7.next+7,S7.heap⟩:St) fun t18 S19=>
K (.tup []) S19) (dR (aA prog 37 (.ptr r0.1 0 0 0) 8) fun t87=>
dR (aB prog 3 t87 (⟨S7.next+7,S7.heap⟩:St)) fun t88=>
bY (aN prog 3 t88 (.int .i64 0)) (dR (aD prog .eql 3 t88 (.int .i64 0)) fun t89=>
aE t89 (dR (aA prog 37 (.ptr r0.1 0 0 0) 4) fun t90=>
dR (aB prog 3 t90 (⟨S7.next+7,S7.heap⟩:St)) fun t91=>
dR (aA prog 37 (.ptr r0.1 0 0 0) 5) fun t92=>
dR (aB prog 3 t92 (⟨S7.next+7,S7.heap⟩:St)) fun t93=>
dR (aA prog 37 (.ptr r0.1 0 0 0) 9) fun t94=>
dR (aB prog 3 t94 (⟨S7.next+7,S7.heap⟩:St)) fun t95=>
dR (bM prog 102 [(0,t91),(1,t93),(2,t95)]) fun t96=>
bY (aH (t96:V).cells) (dR (aY none (⟨S7.next+7,S7.heap⟩:St) (.row 0 (t96:V).cells.length [(t96:V).cells])) fun r97=>
aZ a0 (dR (aA prog 88 a0 9) fun t98=>
dR (aV prog 86 t98 (.ptr r97.1 0 0 0) r97.2) fun S99=>
wU C k K a0 (.ptr r0.1 0 0 0) S99))) (wU C k K a0 (.ptr r0.1 0 0 0) (⟨S7.next+7,S7.heap⟩:St)))))))))
theorem aPj:(fun (k:Nat) (a0 a1:V) (S:St) (K:KS)=>aC prog bD bE (k+1) 58 [a0,a1] S K)=fun k a0 a1 S K=>m58 (aC prog bD bE k) k a0 a1 S K:=by kernel_rfl
noncomputable def m59 (C:aT) (k:Nat) (a0 a1:V) (S:St) (K:KS):An:=
bY (aH (a1:V).cells) (dR (aY none S (.row 0 (a1:V).cells.length [(a1:V).cells])) fun r0=>
dR (aA prog 37 (.ptr r0.1 0 0 0) 1) fun t1=>
dR (aB prog 3 t1 (⟨r0.2.next+7,r0.2.heap⟩:St)) fun t2=>
aZ a0 (dR (aA prog 88 a0 8) fun t3=>
dR (bA prog 85 t3 t2) fun t4=>
aZ a0 (dR (aA prog 88 a0 2) fun t5=>
dR (aB prog 3 t5 (⟨r0.2.next+54,r0.2.heap⟩:St)) fun t6=>
bY (aN prog 3 t6 (.int .i64 3)) (dR (aD prog .neq 3 t6 (.int .i64 3)) fun t7=>
aE t7 (K (.tup []) (⟨r0.2.next+54,r0.2.heap⟩:St)) (dR (aA prog 37 (.ptr r0.1 0 0 0) 4) fun t8=>
dR (aB prog 3 t8 (⟨r0.2.next+54,r0.2.heap⟩:St)) fun t9=>
aZ a0 (dR (aA prog 88 a0 1) fun t10=>
dR (aA prog 24 t10 2) fun t11=>
dR (aB prog 3 t11 (⟨r0.2.next+54,r0.2.heap⟩:St)) fun t12=>
bY (aN prog 3 t9 t12) (dR (aD prog .neq 3 t9 t12) fun t13=>
aE t13 (K (.tup []) (⟨r0.2.next+54,r0.2.heap⟩:St)) (aZ t4 (dR (aA prog 84 t4 0) fun t14=>
dR (aB prog 3 t14 (⟨r0.2.next+54,r0.2.heap⟩:St)) fun t15=>
aZ a0 (dR (aA prog 88 a0 1) fun t16=>
dR (aA prog 24 t16 2) fun t17=>
dR (aB prog 3 t17 (⟨r0.2.next+54,r0.2.heap⟩:St)) fun t18=>
dR (aD prog .gtr 3 t15 t18) fun t19=>
aE t19 (K (.tup []) (⟨r0.2.next+54,r0.2.heap⟩:St)) (dR (aA prog 37 (.ptr r0.1 0 0 0) 8) fun t20=>
dR (aB prog 3 t20 (⟨r0.2.next+54,r0.2.heap⟩:St)) fun t21=>
aZ a0 (dR (aA prog 88 a0 1) fun t22=>
dR (aA prog 24 t22 5) fun t23=>
dR (aB prog 9 t23 (⟨r0.2.next+54,r0.2.heap⟩:St)) fun t24=>
dR (dI prog 9 t24 (⟨r0.2.next+54,r0.2.heap⟩:St)) fun t25=>
dR (aD prog .geq 3 t21 t25) fun t26=>
aE t26 (K (.tup []) (⟨r0.2.next+54,r0.2.heap⟩:St)) (dR (aA prog 37 (.ptr r0.1 0 0 0) 8) fun t27=>
dR (aB prog 3 t27 (⟨r0.2.next+54,r0.2.heap⟩:St)) fun t28=>
aZ t4 (dR (aA prog 84 t4 2) fun t29=>
dR (aB prog 3 t29 (⟨r0.2.next+54,r0.2.heap⟩:St)) fun t30=>
bY (aN prog 3 t28 t30) (dR (aD prog .eql 3 t28 t30) fun t31=>
aE t31 (K (.tup []) (⟨r0.2.next+54,r0.2.heap⟩:St)) (dR (aA prog 37 (.ptr r0.1 0 0 0) 8) fun t32=>
dR (aB prog 3 t32 (⟨r0.2.next+54,r0.2.heap⟩:St)) fun t33=>
aZ t4 (dR (aA prog 84 t4 2) fun t34=>
dR (aV prog 3 t34 t33 (⟨r0.2.next+54,r0.2.heap⟩:St)) fun S35=>
dR (aA prog 37 (.ptr r0.1 0 0 0) 1) fun t36=>
dR (aB prog 3 t36 S35) fun t37=>
C 83 [a0,t37] S35 fun t38 S39=>
K (.tup []) S39)))))))))))))))))
theorem aPk:(fun (k:Nat) (a0 a1:V) (S:St) (K:KS)=>aC prog bD bE (k+1) 59 [a0,a1] S K)=fun k a0 a1 S K=>m59 (aC prog bD bE k) k a0 a1 S K:=by kernel_rfl
noncomputable def m60 (C:aT) (k:Nat) (a0:V) (S:St) (K:KS):An:=
aZ a0 (dR (aA prog 88 a0 0) fun t0=>
dR (aB prog 3 t0 (⟨S.next+12,S.heap⟩:St)) fun t1=>
aZ a0 (dR (aA prog 88 a0 8) fun t2=>
C 46 [a0] (⟨S.next+12,S.heap⟩:St) fun t3 S4=>
dR (aB prog 3 t0 S4) fun t5=>
bY (cV t1 t5) (dR (bA prog 85 t2 t1) fun t6=>
dR (aA prog 84 t6 1) fun t7=>
dR (aV prog 3 t7 t3 S4) fun S8=>
C 90 [a0] S8 fun t9 S10=>
C 48 [a0] S10 fun t11 S12=>
K (.tup []) S12)))
theorem aPl:(fun (k:Nat) (a0:V) (S:St) (K:KS)=>aC prog bD bE (k+1) 60 [a0] S K)=fun k a0 S K=>m60 (aC prog bD bE k) k a0 S K:=by kernel_rfl
noncomputable def m62 (C:aT) (k:Nat) (a0 a1:V) (S:St) (K:KS):An:=
aZ a0 (dR (aA prog 88 a0 1) fun t0=>
dR (aA prog 24 t0 2) fun t1=>
dR (aB prog 3 t1 S) fun t2=>
bY (aN prog 3 a1 t2) (dR (aD prog .eql 3 a1 t2) fun t3=>
aE t3 (aZ a0 (dR (aA prog 88 a0 1) fun t4=>
dR (aA prog 24 t4 3) fun t5=>
dR (aB prog 3 t5 S) fun t6=>
K t6 S)) (aZ a0 (dR (aA prog 88 a0 1) fun t7=>
dR (aA prog 24 t7 6) fun t8=>
dR (aB prog 22 t8 (⟨S.next+17,S.heap⟩:St)) fun t9=>
aZ a0 (dR (aA prog 88 a0 1) fun t10=>
dR (aA prog 24 t10 2) fun t11=>
dR (aB prog 3 t11 (⟨S.next+17,S.heap⟩:St)) fun t12=>
dR (aD prog .sub 3 a1 t12) fun t13=>
dR (aD prog .sub 3 t13 (.int .i64 1)) fun t14=>
dR (bA prog 22 t9 t14) fun t15=>
dR (aA prog 59 t15 0) fun t16=>
dR (aB prog 3 t16 (⟨S.next+17,S.heap⟩:St)) fun t17=>
K t17 (⟨S.next+17,S.heap⟩:St))))))
theorem aPm:(fun (k:Nat) (a0 a1:V) (S:St) (K:KS)=>aC prog bD bE (k+1) 62 [a0,a1] S K)=fun k a0 a1 S K=>m62 (aC prog bD bE k) k a0 a1 S K:=by kernel_rfl
noncomputable def aBi (C:aT) (k:Nat) (K:KS) (p1 p79 p80:V) (vs:List V) (S:St) (again0:List V→St→An):An:=
oL vs fun x2 vs=>
oL vs fun x3 vs=>
oL vs fun x81 vs=>
dR (aD prog .lss 3 x81 p80) fun t56=>
aE t56 (dR (bA prog 22 p79 x81) fun t57=>
dR (aB prog 59 t57 S) fun t58=>
dR (aY none S (.row 0 3 [[.int .i64 0,.int .i64 0,.str []]])) fun r59=>
dR (aV prog 59 (.ptr r59.1 0 0 0) t58 r59.2) fun S60=>
dR (aB prog 59 (.ptr r59.1 0 0 0) S60) fun t61=>
dR (aA prog 24 p1 0) fun t62=>
dR (aB prog 3 t62 S60) fun t63=>
C 95 [t61,x3,t63] S60 fun t64 S65=>
dR (yB .not t64) fun t66=>
aE t66 (K (.bool false) S65) (dR (aA prog 59 (.ptr r59.1 0 0 0) 0) fun t67=>
dR (aB prog 3 t67 S65) fun t68=>
dR (aD prog .add 3 x81 (.int .i64 1)) fun t69=>
again0 [x2,t68,t69] S65)) (K (.bool true) S)
noncomputable def m67 (C:aT) (k:Nat) (a0:V) (S:St) (K:KS):An:=
bY (aH (a0:V).cells) (dR (aY none S (.row 0 (a0:V).cells.length [(a0:V).cells])) fun r0=>
dR (aA prog 24 (.ptr r0.1 0 0 0) 0) fun t1=>
dR (aB prog 3 t1 r0.2) fun t2=>
dR (aD prog .lss 3 t2 (.int .i64 0)) fun t3=>
aE t3 (K (.bool false) r0.2) (dR (aA prog 24 (.ptr r0.1 0 0 0) 0) fun t4=>
dR (aB prog 3 t4 r0.2) fun t5=>
dR (aD prog .gtr 3 t5 (.int .i64 1099511627776)) fun t6=>
aE t6 (K (.bool false) r0.2) (dR (aA prog 24 (.ptr r0.1 0 0 0) 1) fun t7=>
dR (aB prog 3 t7 r0.2) fun t8=>
dR (aD prog .lss 3 t8 (.int .i64 (-1))) fun t9=>
aE t9 (K (.bool false) r0.2) (dR (aA prog 24 (.ptr r0.1 0 0 0) 1) fun t10=>
dR (aB prog 3 t10 r0.2) fun t11=>
dR (aD prog .geq 3 t11 (.int .i64 7)) fun t12=>
aE t12 (K (.bool false) r0.2) (dR (aA prog 24 (.ptr r0.1 0 0 0) 4) fun t13=>
dR (aB prog 3 t13 r0.2) fun t14=>
dR (aD prog .lss 3 t14 (.int .i64 1)) fun t15=>
aE t15 (K (.bool false) r0.2) (dR (aA prog 24 (.ptr r0.1 0 0 0) 4) fun t16=>
dR (aB prog 3 t16 r0.2) fun t17=>
dR (aD prog .gtr 3 t17 (.int .i64 127)) fun t18=>
aE t18 (K (.bool false) r0.2) (dR (aA prog 24 (.ptr r0.1 0 0 0) 2) fun t19=>
dR (aB prog 3 t19 r0.2) fun t20=>
dR (aD prog .lss 3 t20 (.int .i64 0)) fun t21=>
aE t21 (K (.bool false) r0.2) (dR (aA prog 24 (.ptr r0.1 0 0 0) 2) fun t22=>
dR (aB prog 3 t22 r0.2) fun t23=>
dR (aD prog .gtr 3 t23 (.int .i64 1099511627776)) fun t24=>
aE t24 (K (.bool false) r0.2) (dR (aA prog 24 (.ptr r0.1 0 0 0) 3) fun t25=>
dR (aB prog 3 t25 r0.2) fun t26=>
dR (aD prog .lss 3 t26 (.int .i64 0)) fun t27=>
aE t27 (K (.bool false) r0.2) (dR (aA prog 24 (.ptr r0.1 0 0 0) 3) fun t28=>
dR (aB prog 3 t28 r0.2) fun t29=>
dR (aA prog 24 (.ptr r0.1 0 0 0) 0) fun t30=>
dR (aB prog 3 t30 r0.2) fun t31=>
dR (aD prog .gtr 3 t29 t31) fun t32=>
aE t32 (K (.bool false) r0.2) (dR (aA prog 24 (.ptr r0.1 0 0 0) 3) fun t33=>
dR (aB prog 3 t33 r0.2) fun t34=>
bY (aN prog 3 t34 (.int .i64 0)) (dR (aD prog .eql 3 t34 (.int .i64 0)) fun t35=>
dR (aA prog 24 (.ptr r0.1 0 0 0) 2) fun t36=>
dR (aB prog 3 t36 r0.2) fun t37=>
bY (aN prog 3 t37 (.int .i64 0)) (dR (aD prog .eql 3 t37 (.int .i64 0)) fun t38=>
bY (aN prog 4 t35 t38) (dR (aD prog .neq 4 t35 t38) fun t39=>
aE t39 (K (.bool false) r0.2) (dR (aA prog 24 (.ptr r0.1 0 0 0) 6) fun t40=>
dR (aB prog 22 t40 r0.2) fun t41=>
dR (dI prog 22 t41 r0.2) fun t42=>
dR (aD prog .gtr 3 t42 (.int .i64 200)) fun t43=>
aE t43 (K (.bool false) r0.2) (dR (aA prog 24 (.ptr r0.1 0 0 0) 6) fun t44=>
dR (aB prog 22 t44 r0.2) fun t45=>
dR (dI prog 22 t45 r0.2) fun t46=>
dR (aA prog 24 (.ptr r0.1 0 0 0) 2) fun t47=>
dR (aB prog 3 t47 r0.2) fun t48=>
dR (aD prog .sub 3 (.int .i64 1099511627776) t48) fun t49=>
dR (aD prog .gtr 3 t46 t49) fun t50=>
aE t50 (K (.bool false) r0.2) (dR (aA prog 24 (.ptr r0.1 0 0 0) 3) fun t51=>
dR (aB prog 3 t51 r0.2) fun t52=>
dR (aA prog 24 (.ptr r0.1 0 0 0) 6) fun t53=>
dR (aB prog 22 t53 r0.2) fun t54=>
dR (dI prog 22 t54 r0.2) fun t55=>
cW k [(.bool false),t52,(.int .i64 0)] r0.2 (aBi C k K (.ptr r0.1 0 0 0) t54 t55))))))))))))))))))
theorem aPn:(fun (k:Nat) (a0:V) (S:St) (K:KS)=>aC prog bD bE (k+1) 67 [a0] S K)=fun k a0 S K=>m67 (aC prog bD bE k) k a0 S K:=by kernel_rfl
noncomputable def aBj (C:aT) (k:Nat) (K:KS) (p0 p8 p9:V) (vs:List V) (S:St) (again0:List V→St→An):An:=
oL vs fun x3 vs=>
oL vs fun x10 vs=>
dR (aD prog .lss 3 x10 p9) fun t5=>
aE t5 (dR (bA prog 68 p8 x10) fun t6=>
dR (aB prog 3 t6 S) fun t7=>
aZ p0 (dR (aA prog 88 p0 0) fun t8=>
dR (aB prog 3 t8 S) fun t9=>
bY (aN prog 3 t7 t9) (dR (aD prog .neq 3 t7 t9) fun t10=>
aE t10 (dR (bS prog 68 1 [(0,t7)] none S) fun r11=>
dR (cE prog 68 x3 r11.1 none r11.2) fun r12=>
dR (aD prog .add 3 x10 (.int .i64 1)) fun t13=>
again0 [r12.1,t13] r12.2) (dR (aD prog .add 3 x10 (.int .i64 1)) fun t14=>
again0 [x3,t14] S)))) (K x3 S)
noncomputable def m82 (C:aT) (k:Nat) (a0:V) (S:St) (K:KS):An:=
C 47 [a0] S fun t0 S1=>
C 101 [t0] S1 fun t2 S3=>
dR (dI prog 68 t2 S3) fun t4=>
cW k [(.nils),(.int .i64 0)] S3 (aBj C k K a0 t2 t4)
theorem aPo:(fun (k:Nat) (a0:V) (S:St) (K:KS)=>aC prog bD bE (k+1) 82 [a0] S K)=fun k a0 S K=>m82 (aC prog bD bE k) k a0 S K:=by kernel_rfl
noncomputable def m83 (C:aT) (k:Nat) (a0 a1:V) (S:St) (K:KS):An:=
aZ a0 (dR (aA prog 88 a0 8) fun t0=>
dR (bA prog 85 t0 a1) fun t1=>
dR (aB prog 84 t1 S) fun t2=>
dR (aY none S (.row 0 3 [[.int .i64 0,.int .i64 0,.int .i64 0]])) fun r3=>
dR (aV prog 84 (.ptr r3.1 0 0 0) t2 r3.2) fun S4=>
dR (aA prog 84 (.ptr r3.1 0 0 0) 0) fun t5=>
dR (aB prog 3 t5 (⟨S4.next+8,S4.heap⟩:St)) fun t6=>
aZ a0 (dR (aA prog 88 a0 1) fun t7=>
dR (aA prog 24 t7 2) fun t8=>
dR (aB prog 3 t8 (⟨S4.next+8,S4.heap⟩:St)) fun t9=>
dR (aD prog .leq 3 t6 t9) fun t10=>
aE t10 (aZ a0 (dR (aA prog 88 a0 1) fun t11=>
dR (aA prog 24 t11 5) fun t12=>
dR (aB prog 9 t12 (⟨S4.next+17,S4.heap⟩:St)) fun t13=>
dR (aA prog 84 (.ptr r3.1 0 0 0) 2) fun t14=>
dR (aB prog 3 t14 (⟨S4.next+17,S4.heap⟩:St)) fun t15=>
dR (dP prog 9 t13 (some t15) none) fun t16=>
aZ a0 (dR (aA prog 88 a0 1) fun t17=>
dR (aA prog 24 t17 2) fun t18=>
dR (aB prog 3 t18 (⟨S4.next+49,S4.heap⟩:St)) fun t19=>
aZ a0 (dR (aA prog 88 a0 1) fun t20=>
dR (aA prog 24 t20 3) fun t21=>
dR (aB prog 3 t21 (⟨S4.next+49,S4.heap⟩:St)) fun t22=>
aZ a0 (dR (aA prog 88 a0 1) fun t23=>
dR (aA prog 24 t23 4) fun t24=>
dR (aB prog 3 t24 (⟨S4.next+49,S4.heap⟩:St)) fun t25=>
dR (aA prog 84 (.ptr r3.1 0 0 0) 2) fun t26=>
dR (aB prog 3 t26 (⟨S4.next+49,S4.heap⟩:St)) fun t27=>
aZ a0 (dR (aA prog 88 a0 1) fun t28=>
dR (aA prog 24 t28 5) fun t29=>
dR (aB prog 9 t29 (⟨S4.next+49,S4.heap⟩:St)) fun t30=>
dR (dI prog 9 t30 (⟨S4.next+49,S4.heap⟩:St)) fun t31=>
dR (dI prog 9 t16 (⟨S4.next+49,S4.heap⟩:St)) fun t32=>
dR (yF [t32,(.int .i64 600)]) fun t33=>
dR (dP prog 9 t16 none (some t33)) fun t34=>
dR (bM prog 37 [(0,(.int .i64 5)),(2,a1),(4,t19),(5,t22),(7,t25),(8,t27),(9,t31),(11,t34)]) fun t35=>
C 86 [a0,t35] (⟨S4.next+49,S4.heap⟩:St) fun t36 S37=>
K (.tup []) S37)))))) (aZ a0 (dR (aA prog 88 a0 1) fun t38=>
dR (aA prog 24 t38 6) fun t39=>
dR (aB prog 22 t39 (⟨S4.next+24,S4.heap⟩:St)) fun t40=>
dR (aA prog 84 (.ptr r3.1 0 0 0) 0) fun t41=>
dR (aB prog 3 t41 (⟨S4.next+24,S4.heap⟩:St)) fun t42=>
aZ a0 (dR (aA prog 88 a0 1) fun t43=>
dR (aA prog 24 t43 2) fun t44=>
dR (aB prog 3 t44 (⟨S4.next+24,S4.heap⟩:St)) fun t45=>
dR (aD prog .sub 3 t42 t45) fun t46=>
dR (aD prog .sub 3 t46 (.int .i64 1)) fun t47=>
dR (dP prog 22 t40 (some t47) none) fun t48=>
dR (dI prog 22 t48 (⟨S4.next+24,S4.heap⟩:St)) fun t49=>
dR (yF [t49,(.int .i64 8)]) fun t50=>
dR (dP prog 22 t48 none (some t50)) fun t51=>
dR (cE prog 22 (.nils) t51 none (⟨S4.next+24,S4.heap⟩:St)) fun r52=>
dR (aA prog 84 (.ptr r3.1 0 0 0) 0) fun t53=>
dR (aB prog 3 t53 (⟨r52.2.next+17,r52.2.heap⟩:St)) fun t54=>
dR (aD prog .sub 3 t54 (.int .i64 1)) fun t55=>
dR (aA prog 84 (.ptr r3.1 0 0 0) 0) fun t56=>
dR (aB prog 3 t56 (⟨r52.2.next+17,r52.2.heap⟩:St)) fun t57=>
dR (aD prog .sub 3 t57 (.int .i64 1)) fun t58=>
aZ a0 (dR (aA prog 88 a0 4) fun t59=>
dR (aB prog 3 t59 (⟨r52.2.next+17,r52.2.heap⟩:St)) fun t60=>
C 62 [a0,t58] (⟨r52.2.next+17,r52.2.heap⟩:St) fun t61 S62=>
dR (aB prog 3 t59 S62) fun t63=>
bY (cV t60 t63) (dR (aB prog 3 t53 S62) fun t64=>
bY (cV t54 t64) (dR (bM prog 37 [(0,(.int .i64 3)),(2,a1),(4,t55),(5,t61),(12,r52.1),(6,t60)]) fun t65=>
C 86 [a0,t65] S62 fun t66 S67=>
K (.tup []) S67))))))))
theorem aPp:(fun (k:Nat) (a0 a1:V) (S:St) (K:KS)=>aC prog bD bE (k+1) 83 [a0,a1] S K)=fun k a0 a1 S K=>m83 (aC prog bD bE k) k a0 a1 S K:=by kernel_rfl
noncomputable def m84 (C:aT) (k:Nat) (a0 a1:V) (S:St) (K:KS):An:=
C 92 [a0] S fun t0 S1=>
aE t0 (dR (aD prog .and 3 a0 a1) fun t2=>
C 93 [t2] S1 fun t3 S4=>
dR (aD prog .mul 3 (.int .i64 2) t3) fun t5=>
C 93 [a0] S4 fun t6 S7=>
dR (aD prog .gtr 3 t5 t6) fun t8=>
K t8 S7) (K (.bool false) S1)
theorem aPq:(fun (k:Nat) (a0 a1:V) (S:St) (K:KS)=>aC prog bD bE (k+1) 84 [a0,a1] S K)=fun k a0 a1 S K=>m84 (aC prog bD bE k) k a0 a1 S K:=by kernel_rfl
noncomputable def wV (C:aT) (k:Nat) (K:KS) (p0 p40:V) (S:St):An:=
aE p40 (aZ p0 (dR (aA prog 88 p0 1) fun t17=>
dR (aA prog 24 t17 6) fun t18=>
dR (aB prog 22 t18 (⟨S.next+18,S.heap⟩:St)) fun t19=>
aZ p0 (dR (aA prog 88 p0 1) fun t20=>
dR (aA prog 24 t20 0) fun t21=>
dR (aB prog 3 t21 (⟨S.next+18,S.heap⟩:St)) fun t22=>
dR (bM prog 59 [(0,t22)]) fun t23=>
dR (bS prog 22 1 [(0,t23)] (some (S.next+12)) (⟨S.next+18,S.heap⟩:St)) fun r24=>
dR (cE prog 22 t19 r24.1 (some (S.next+13)) r24.2) fun r25=>
aZ p0 (dR (aA prog 88 p0 1) fun t26=>
dR (aA prog 24 t26 6) fun t27=>
dR (aV prog 22 t27 r25.1 r25.2) fun S28=>
C 60 [p0] S28 fun t29 S30=>
K (.tup []) S30)))) (C 60 [p0] S fun t31 S32=>
K (.tup []) S32)
noncomputable def sU (C:aT) (k:Nat) (K:KS) (p0:V) (vs:List V) (S:St) (again0:List V→St→An):An:=
oL vs fun x16 vs=>
dR (aD prog .lss 3 x16 (.int .i64 7)) fun t8=>
aE t8 (aZ p0 (dR (aA prog 88 p0 8) fun t9=>
C 46 [p0] (⟨S.next+10,S.heap⟩:St) fun t10 S11=>
dR (aD prog .add 3 t10 (.int .i64 1)) fun t12=>
dR (bM prog 84 [(0,t12)]) fun t13=>
dR (bA prog 85 t9 x16) fun t14=>
dR (aV prog 84 t14 t13 S11) fun S15=>
dR (aD prog .add 3 x16 (.int .i64 1)) fun t16=>
again0 [t16] S15)) (C 46 [p0] S fun t33 S34=>
dR (aD prog .lss 3 t33 (.int .i64 1099511627776)) fun t35=>
aE t35 (aZ p0 (dR (aA prog 88 p0 1) fun t36=>
dR (aA prog 24 t36 6) fun t37=>
dR (aB prog 22 t37 S34) fun t38=>
dR (dI prog 22 t38 S34) fun t39=>
dR (aD prog .lss 3 t39 (.int .i64 200)) fun t40=>
wV C k K p0 t40 S34)) (wV C k K p0 (.bool false) S34))
noncomputable def m85 (C:aT) (k:Nat) (a0:V) (S:St) (K:KS):An:=
aZ a0 (dR (aA prog 88 a0 0) fun t0=>
dR (aB prog 3 t0 S) fun t1=>
aZ a0 (dR (aA prog 88 a0 2) fun t2=>
dR (aV prog 3 t2 (.int .i64 3) S) fun S3=>
aZ a0 (dR (aA prog 88 a0 3) fun t4=>
dR (aV prog 3 t4 t1 S3) fun S5=>
aZ a0 (dR (aA prog 88 a0 6) fun t6=>
dR (aV prog 3 t6 (.int .i64 3) S5) fun S7=>
cW k [(.int .i64 0)] S7 (sU C k K a0)))))
theorem aPr:(fun (k:Nat) (a0:V) (S:St) (K:KS)=>aC prog bD bE (k+1) 85 [a0] S K)=fun k a0 S K=>m85 (aC prog bD bE k) k a0 S K:=by kernel_rfl
noncomputable def m86 (C:aT) (k:Nat) (a0 a1:V) (S:St) (K:KS):An:=
bY (aH (a1:V).cells) (dR (aY none S (.row 0 (a1:V).cells.length [(a1:V).cells])) fun r0=>
aZ a0 (dR (aA prog 88 a0 0) fun t1=>
dR (aB prog 3 t1 (⟨r0.2.next+13,r0.2.heap⟩:St)) fun t2=>
aZ a0 (dR (aA prog 88 a0 1) fun t3=>
dR (aA prog 24 t3 0) fun t4=>
dR (aB prog 3 t4 (⟨r0.2.next+13,r0.2.heap⟩:St)) fun t5=>
dR (aA prog 37 (.ptr r0.1 0 0 0) 1) fun t6=>
dR (aV prog 3 t6 t2 (⟨r0.2.next+13,r0.2.heap⟩:St)) fun S7=>
dR (aB prog 3 t4 S7) fun t8=>
bY (cV t5 t8) (dR (aA prog 37 (.ptr r0.1 0 0 0) 3) fun t9=>
dR (aV prog 3 t9 t5 S7) fun S10=>
aZ a0 (dR (aA prog 88 a0 10) fun t11=>
dR (aB prog 43 t11 (⟨S10.next+11,S10.heap⟩:St)) fun t12=>
dR (aB prog 37 (.ptr r0.1 0 0 0) (⟨S10.next+11,S10.heap⟩:St)) fun t13=>
dR (bS prog 43 1 [(0,t13)] (some (S10.next+6)) (⟨S10.next+11,S10.heap⟩:St)) fun r14=>
dR (cE prog 43 t12 r14.1 (some (S10.next+7)) r14.2) fun r15=>
aZ a0 (dR (aA prog 88 a0 10) fun t16=>
dR (aV prog 43 t16 r15.1 r15.2) fun S17=>
K (.tup []) S17))))))
theorem aPs:(fun (k:Nat) (a0 a1:V) (S:St) (K:KS)=>aC prog bD bE (k+1) 86 [a0,a1] S K)=fun k a0 a1 S K=>m86 (aC prog bD bE k) k a0 a1 S K:=by kernel_rfl
noncomputable def m87 (C:aT) (k:Nat) (a0:V) (S:St) (K:KS):An:=
bY (aH (a0:V).cells) (dR (aY none S (.row 0 (a0:V).cells.length [(a0:V).cells])) fun r0=>
dR (aB prog 37 (.ptr r0.1 0 0 0) r0.2) fun t1=>
C 102 [t1] r0.2 fun t2 S3=>
dR (yB .not t2) fun t4=>
aE t4 (K (.bool false) S3) (dR (aA prog 37 (.ptr r0.1 0 0 0) 1) fun t5=>
dR (aB prog 3 t5 S3) fun t6=>
C 103 [t6,(.int .i64 0),(.int .i64 6)] S3 fun t7 S8=>
dR (yB .not t7) fun t9=>
aE t9 (K (.bool false) S8) (dR (aA prog 37 (.ptr r0.1 0 0 0) 2) fun t10=>
dR (aB prog 3 t10 S8) fun t11=>
C 103 [t11,(.int .i64 0),(.int .i64 6)] S8 fun t12 S13=>
dR (yB .not t12) fun t14=>
aE t14 (K (.bool false) S13) (dR (aA prog 37 (.ptr r0.1 0 0 0) 1) fun t15=>
dR (aB prog 3 t15 S13) fun t16=>
dR (aA prog 37 (.ptr r0.1 0 0 0) 2) fun t17=>
dR (aB prog 3 t17 S13) fun t18=>
bY (aN prog 3 t16 t18) (dR (aD prog .eql 3 t16 t18) fun t19=>
aE t19 (K (.bool false) S13) (dR (aA prog 37 (.ptr r0.1 0 0 0) 3) fun t20=>
dR (aB prog 3 t20 S13) fun t21=>
C 103 [t21,(.int .i64 1),(.int .i64 1099511627776)] S13 fun t22 S23=>
dR (yB .not t22) fun t24=>
aE t24 (K (.bool false) S23) (dR (aA prog 37 (.ptr r0.1 0 0 0) 4) fun t25=>
dR (aB prog 3 t25 S23) fun t26=>
C 103 [t26,(.int .i64 0),(.int .i64 1099511627776)] S23 fun t27 S28=>
dR (yB .not t27) fun t29=>
aE t29 (K (.bool false) S28) (dR (aA prog 37 (.ptr r0.1 0 0 0) 5) fun t30=>
dR (aB prog 3 t30 S28) fun t31=>
dR (aA prog 37 (.ptr r0.1 0 0 0) 3) fun t32=>
dR (aB prog 3 t32 S28) fun t33=>
C 103 [t31,(.int .i64 0),t33] S28 fun t34 S35=>
dR (yB .not t34) fun t36=>
aE t36 (K (.bool false) S35) (dR (aA prog 37 (.ptr r0.1 0 0 0) 6) fun t37=>
dR (aB prog 3 t37 S35) fun t38=>
C 103 [t38,(.int .i64 0),(.int .i64 1099511627776)] S35 fun t39 S40=>
dR (yB .not t39) fun t41=>
aE t41 (K (.bool false) S40) (dR (aA prog 37 (.ptr r0.1 0 0 0) 0) fun t42=>
dR (aB prog 3 t42 S40) fun t43=>
bY (aN prog 3 t43 (.int .i64 1)) (dR (aD prog .eql 3 t43 (.int .i64 1)) fun t44=>
aE t44 (dR (aA prog 37 (.ptr r0.1 0 0 0) 5) fun t45=>
dR (aB prog 3 t45 S40) fun t46=>
bY (aN prog 3 t46 (.int .i64 0)) (dR (aD prog .eql 3 t46 (.int .i64 0)) fun t47=>
dR (aA prog 37 (.ptr r0.1 0 0 0) 4) fun t48=>
dR (aB prog 3 t48 S40) fun t49=>
bY (aN prog 3 t49 (.int .i64 0)) (dR (aD prog .eql 3 t49 (.int .i64 0)) fun t50=>
bY (aN prog 4 t47 t50) (dR (aD prog .eql 4 t47 t50) fun t51=>
K t51 S40)))) (bY (aN prog 3 t43 (.int .i64 3)) (dR (aD prog .eql 3 t43 (.int .i64 3)) fun t52=>
aE t52 (dR (aA prog 37 (.ptr r0.1 0 0 0) 5) fun t53=>
dR (aB prog 3 t53 S40) fun t54=>
bY (aN prog 3 t54 (.int .i64 0)) (dR (aD prog .eql 3 t54 (.int .i64 0)) fun t55=>
dR (aA prog 37 (.ptr r0.1 0 0 0) 4) fun t56=>
dR (aB prog 3 t56 S40) fun t57=>
bY (aN prog 3 t57 (.int .i64 0)) (dR (aD prog .eql 3 t57 (.int .i64 0)) fun t58=>
bY (aN prog 4 t55 t58) (dR (aD prog .eql 4 t55 t58) fun t59=>
aE t59 (dR (aB prog 37 (.ptr r0.1 0 0 0) S40) fun t60=>
C 104 [t60] S40 fun t61 S62=>
K t61 S62) (K (.bool false) S40))))) (bY (aN prog 3 t43 (.int .i64 5)) (dR (aD prog .eql 3 t43 (.int .i64 5)) fun t63=>
aE t63 (dR (aB prog 37 (.ptr r0.1 0 0 0) S40) fun t64=>
C 105 [t64] S40 fun t65 S66=>
K t65 S66) (bY (aN prog 3 t43 (.int .i64 6)) (dR (aD prog .eql 3 t43 (.int .i64 6)) fun t67=>
aE t67 (dR (aA prog 37 (.ptr r0.1 0 0 0) 4) fun t68=>
dR (aB prog 3 t68 S40) fun t69=>
bY (aN prog 3 t69 (.int .i64 0)) (dR (aD prog .neq 3 t69 (.int .i64 0)) fun t70=>
aE t70 (dR (aA prog 37 (.ptr r0.1 0 0 0) 8) fun t71=>
dR (aB prog 3 t71 S40) fun t72=>
C 103 [t72,(.int .i64 0),(.int .i64 65536)] S40 fun t73 S74=>
K t73 S74) (K (.bool false) S40))) (K (.bool true) S40))))))))))))))))))
theorem aPt:(fun (k:Nat) (a0:V) (S:St) (K:KS)=>aC prog bD bE (k+1) 87 [a0] S K)=fun k a0 S K=>m87 (aC prog bD bE k) k a0 S K:=by kernel_rfl
noncomputable def aBk (C:aT) (k:Nat) (K:KS) (p0 p3 p9 p10:V) (vs:List V) (S:St) (again0:List V→St→An):An:=
oL vs fun x4 vs=>
oL vs fun x11 vs=>
dR (aD prog .lss 3 x11 p10) fun t4=>
aE t4 (dR (bA prog 22 p9 x11) fun t5=>
dR (aB prog 59 t5 S) fun t6=>
dR (aY none S (.row 0 3 [[.int .i64 0,.int .i64 0,.str []]])) fun r7=>
dR (aV prog 59 (.ptr r7.1 0 0 0) t6 r7.2) fun S8=>
dR (aA prog 37 p3 4) fun t9=>
dR (aB prog 3 t9 S8) fun t10=>
dR (aD prog .add 3 t10 (.int .i64 1)) fun t11=>
dR (aD prog .add 3 t11 x11) fun t12=>
aZ p0 (dR (aA prog 88 p0 1) fun t13=>
dR (aA prog 24 t13 2) fun t14=>
dR (aB prog 3 t14 (⟨S8.next+23,S8.heap⟩:St)) fun t15=>
dR (aD prog .geq 3 t12 t15) fun t16=>
aE t16 (aZ p0 (dR (aA prog 88 p0 4) fun t17=>
dR (aB prog 3 t17 (⟨S8.next+23,S8.heap⟩:St)) fun t18=>
dR (aD prog .leq 3 t12 t18) fun t19=>
aE t19 (dR (aA prog 59 (.ptr r7.1 0 0 0) 0) fun t20=>
dR (aB prog 3 t20 (⟨S8.next+23,S8.heap⟩:St)) fun t21=>
C 62 [p0,t12] (⟨S8.next+23,S8.heap⟩:St) fun t22 S23=>
dR (aB prog 3 t20 S23) fun t24=>
bY (cV t21 t24) (bY (aN prog 3 t22 t21) (dR (aD prog .neq 3 t22 t21) fun t25=>
aE t25 (K (.bool true) S23) (dR (aD prog .add 3 x11 (.int .i64 1)) fun t26=>
again0 [x4,t26] S23)))) (dR (aD prog .add 3 x11 (.int .i64 1)) fun t27=>
again0 [x4,t27] (⟨S8.next+23,S8.heap⟩:St)))) (dR (aD prog .add 3 x11 (.int .i64 1)) fun t28=>
again0 [x4,t28] (⟨S8.next+23,S8.heap⟩:St)))) (K (.bool false) S)
noncomputable def m88 (C:aT) (k:Nat) (a0 a1:V) (S:St) (K:KS):An:=
bY (aH (a1:V).cells) (dR (aY none S (.row 0 (a1:V).cells.length [(a1:V).cells])) fun r0=>
dR (aA prog 37 (.ptr r0.1 0 0 0) 12) fun t1=>
dR (aB prog 22 t1 r0.2) fun t2=>
dR (dI prog 22 t2 r0.2) fun t3=>
cW k [(.bool false),(.int .i64 0)] r0.2 (aBk C k K a0 (.ptr r0.1 0 0 0) t2 t3))
theorem aPu:(fun (k:Nat) (a0 a1:V) (S:St) (K:KS)=>aC prog bD bE (k+1) 88 [a0,a1] S K)=fun k a0 a1 S K=>m88 (aC prog bD bE k) k a0 a1 S K:=by kernel_rfl
noncomputable def m89 (C:aT) (k:Nat) (a0 a1:V) (S:St) (K:KS):An:=
aZ a0 (dR (aA prog 88 a0 5) fun t0=>
dR (aB prog 3 t0 S) fun t1=>
aZ a0 (dR (aA prog 88 a0 2) fun t2=>
dR (aV prog 3 t2 (.int .i64 1) S) fun S3=>
aZ a0 (dR (aA prog 88 a0 3) fun t4=>
dR (aV prog 3 t4 a1 S3) fun S5=>
aZ a0 (dR (aA prog 88 a0 6) fun t6=>
dR (aV prog 3 t6 t1 S5) fun S7=>
K (.tup []) S7))))
theorem aPv:(fun (k:Nat) (a0 a1:V) (S:St) (K:KS)=>aC prog bD bE (k+1) 89 [a0,a1] S K)=fun k a0 a1 S K=>m89 (aC prog bD bE k) k a0 a1 S K:=by kernel_rfl
noncomputable def aFg (C:aT) (k:Nat) (K:KS) (again0:List V→St→An) (p0 p2 p3 p4 p57:V) (S:St):An:=
aE p57 (aZ p0 (dR (aA prog 88 p0 4) fun t25=>
dR (aV prog 3 t25 p4 S) fun S26=>
dR (aD prog .sub 3 p4 (.int .i64 1)) fun t27=>
again0 [t27] S26)) (dR (aD prog .sub 3 p4 (.int .i64 1)) fun t28=>
again0 [t28] S)
noncomputable def pP (C:aT) (k:Nat) (K:KS) (again0:List V→St→An) (p0 p2 p3 p4 p29:V) (vs:List V) (S:St) (again1:List V→St→An):An:=
oL vs fun x5 vs=>
oL vs fun x30 vs=>
dR (aD prog .lss 3 x30 (.int .i64 7)) fun t13=>
aE t13 (dR (lW prog 85 p29 x30) fun t14=>
dR (aY none S (.row 0 3 [[.int .i64 0,.int .i64 0,.int .i64 0]])) fun r15=>
dR (aV prog 84 (.ptr r15.1 0 0 0) t14 r15.2) fun S16=>
dR (aA prog 84 (.ptr r15.1 0 0 0) 1) fun t17=>
dR (aB prog 3 t17 S16) fun t18=>
dR (aD prog .geq 3 t18 p4) fun t19=>
aE t19 (dR (bP prog 3 96 x30 none S16) fun r20=>
dR (aD prog .shl 3 (.int .i64 1) r20.1) fun t21=>
dR (aD prog .or 3 x5 t21) fun t22=>
dR (aD prog .add 3 x30 (.int .i64 1)) fun t23=>
again1 [t22,t23] r20.2) (dR (aD prog .add 3 x30 (.int .i64 1)) fun t24=>
again1 [x5,t24] S16)) (aZ p0 (dR (aA prog 88 p0 1) fun t29=>
dR (aA prog 24 t29 0) fun t30=>
dR (aB prog 3 t30 (⟨S.next+14,S.heap⟩:St)) fun t31=>
C 62 [p0,p4] (⟨S.next+14,S.heap⟩:St) fun t32 S33=>
dR (aB prog 3 t30 S33) fun t34=>
bY (cV t31 t34) (bY (aN prog 3 t32 t31) (dR (aD prog .eql 3 t32 t31) fun t35=>
aE t35 (C 84 [p2,x5] S33 fun t36 S37=>
aFg C k K again0 p0 p2 p3 p4 t36 S37) (aFg C k K again0 p0 p2 p3 p4 (.bool false) S33)))))
noncomputable def pQ (C:aT) (k:Nat) (K:KS) (p0 p2 p3:V) (vs:List V) (S:St) (again0:List V→St→An):An:=
oL vs fun x4 vs=>
aZ p0 (dR (aA prog 88 p0 4) fun t8=>
dR (aB prog 3 t8 S) fun t9=>
dR (aD prog .gtr 3 x4 t9) fun t10=>
aE t10 (aZ p0 (dR (aA prog 88 p0 8) fun t11=>
dR (aB prog 85 t11 S) fun t12=>
cW k [(.int .i64 0),(.int .i64 0)] S (pP C k K again0 p0 p2 p3 x4 t12))) (aZ p0 (dR (aA prog 88 p0 0) fun t38=>
dR (aB prog 3 t38 S) fun t39=>
C 50 [p2,t39] S fun t40 S41=>
dR (yB .not t40) fun t42=>
aE t42 (aZ p0 (dR (aA prog 88 p0 4) fun t43=>
dR (aB prog 3 t43 S41) fun t44=>
dR (aD prog .leq 3 p3 t44) fun t45=>
aE t45 (C 106 [p0] S41 fun t46 S47=>
K (.tup []) S47) (K (.tup []) S41))) (K (.tup []) S41))))
noncomputable def m90 (C:aT) (k:Nat) (a0:V) (S:St) (K:KS):An:=
aZ a0 (dR (aA prog 88 a0 1) fun t0=>
dR (aB prog 24 t0 S) fun t1=>
C 49 [t1] S fun t2 S3=>
qY t2 0 fun t4=>
qY t2 1 fun t5=>
C 46 [a0] S3 fun t6 S7=>
cW k [t6] S7 (pQ C k K a0 t4 t5))
theorem aPw:(fun (k:Nat) (a0:V) (S:St) (K:KS)=>aC prog bD bE (k+1) 90 [a0] S K)=fun k a0 S K=>m90 (aC prog bD bE k) k a0 S K:=by kernel_rfl
noncomputable def aBl (C:aT) (k:Nat) (K:KS) (p0 p2 p4 p6:V) (S:St):An:=
dR (aA prog 37 p4 4) fun t1=>
dR (aB prog 3 t1 (⟨S.next+33,S.heap⟩:St)) fun t2=>
dR (aA prog 37 p4 5) fun t3=>
dR (aB prog 3 t3 (⟨S.next+33,S.heap⟩:St)) fun t4=>
dR (aA prog 37 p4 7) fun t5=>
dR (aB prog 3 t5 (⟨S.next+33,S.heap⟩:St)) fun t6=>
aZ p0 (dR (aA prog 88 p0 1) fun t7=>
dR (aA prog 24 t7 2) fun t8=>
dR (aV prog 3 t8 t2 (⟨S.next+33,S.heap⟩:St)) fun S9=>
dR (aB prog 3 t5 S9) fun t10=>
bY (cV t6 t10) (dR (aB prog 3 t3 S9) fun t11=>
bY (cV t4 t11) (aZ p0 (dR (aA prog 88 p0 1) fun t12=>
dR (aA prog 24 t12 3) fun t13=>
dR (aV prog 3 t13 t4 S9) fun S14=>
dR (aB prog 3 t5 S14) fun t15=>
bY (cV t6 t15) (aZ p0 (dR (aA prog 88 p0 1) fun t16=>
dR (aA prog 24 t16 4) fun t17=>
dR (aV prog 3 t17 t6 S14) fun S18=>
aZ p0 (dR (aA prog 88 p0 1) fun t19=>
dR (aA prog 24 t19 5) fun t20=>
dR (aV prog 9 t20 p2 S18) fun S21=>
aZ p0 (dR (aA prog 88 p0 1) fun t22=>
dR (aA prog 24 t22 6) fun t23=>
dR (aV prog 22 t23 p6 S21) fun S24=>
dR (aA prog 37 p4 4) fun t25=>
dR (aB prog 3 t25 S24) fun t26=>
aZ p0 (dR (aA prog 88 p0 4) fun t27=>
dR (aV prog 3 t27 t26 S24) fun S28=>
aZ p0 (dR (aA prog 88 p0 9) fun t29=>
dR (aV prog 86 t29 (.nilp) S28) fun S30=>
K (.tup []) S30))))))))))
noncomputable def wW (C:aT) (k:Nat) (K:KS) (p0 p2 p4 p20:V) (S:St):An:=
aE p20 (aZ p0 (dR (aA prog 88 p0 1) fun t31=>
dR (aA prog 24 t31 6) fun t32=>
dR (aB prog 22 t32 (⟨S.next+17,S.heap⟩:St)) fun t33=>
dR (aA prog 37 p4 4) fun t34=>
dR (aB prog 3 t34 (⟨S.next+17,S.heap⟩:St)) fun t35=>
aZ p0 (dR (aA prog 88 p0 1) fun t36=>
dR (aA prog 24 t36 2) fun t37=>
dR (aB prog 3 t37 (⟨S.next+17,S.heap⟩:St)) fun t38=>
dR (aD prog .sub 3 t35 t38) fun t39=>
dR (dP prog 22 t33 (some t39) none) fun t40=>
dR (cE prog 22 (.nils) t40 (some (S.next+15)) (⟨S.next+17,S.heap⟩:St)) fun r41=>
aBl C k K p0 p2 p4 r41.1 r41.2))) (aBl C k K p0 p2 p4 (.nils) S)
noncomputable def m91 (C:aT) (k:Nat) (a0 a1 a2:V) (S:St) (K:KS):An:=
bY (aH (a1:V).cells) (dR (aY none S (.row 0 (a1:V).cells.length [(a1:V).cells])) fun r0=>
dR (aA prog 37 (.ptr r0.1 0 0 0) 4) fun t42=>
dR (aB prog 3 t42 (⟨r0.2.next+14,r0.2.heap⟩:St)) fun t43=>
C 46 [a0] (⟨r0.2.next+14,r0.2.heap⟩:St) fun t44 S45=>
dR (aB prog 3 t42 S45) fun t46=>
bY (cV t43 t46) (dR (aD prog .leq 3 t43 t44) fun t47=>
aE t47 (dR (aA prog 37 (.ptr r0.1 0 0 0) 4) fun t48=>
dR (aB prog 3 t48 S45) fun t49=>
dR (aA prog 37 (.ptr r0.1 0 0 0) 5) fun t50=>
dR (aB prog 3 t50 S45) fun t51=>
C 62 [a0,t49] S45 fun t52 S53=>
dR (aB prog 3 t50 S53) fun t54=>
bY (cV t51 t54) (bY (aN prog 3 t52 t51) (dR (aD prog .eql 3 t52 t51) fun t55=>
wW C k K a0 a2 (.ptr r0.1 0 0 0) t55 S53))) (wW C k K a0 a2 (.ptr r0.1 0 0 0) (.bool false) S45)))
theorem aPx:(fun (k:Nat) (a0 a1 a2:V) (S:St) (K:KS)=>aC prog bD bE (k+1) 91 [a0,a1,a2] S K)=fun k a0 a1 a2 S K=>m91 (aC prog bD bE k) k a0 a1 a2 S K:=by kernel_rfl
noncomputable def m92 (C:aT) (k:Nat) (a0:V) (S:St) (K:KS):An:=
dR (aD prog .geq 3 a0 (.int .i64 1)) fun t0=>
aE t0 (dR (aD prog .leq 3 a0 (.int .i64 127)) fun t1=>
K t1 S) (K (.bool false) S)
theorem aPy:(fun (k:Nat) (a0:V) (S:St) (K:KS)=>aC prog bD bE (k+1) 92 [a0] S K)=fun k a0 S K=>m92 (aC prog bD bE k) k a0 S K:=by kernel_rfl
noncomputable def m93 (C:aT) (k:Nat) (a0:V) (S:St) (K:KS):An:=
C 101 [a0] S fun t0 S1=>
dR (dI prog 68 t0 S1) fun t2=>
K t2 S1
theorem aPz:(fun (k:Nat) (a0:V) (S:St) (K:KS)=>aC prog bD bE (k+1) 93 [a0] S K)=fun k a0 S K=>m93 (aC prog bD bE k) k a0 S K:=by kernel_rfl
noncomputable def m95 (C:aT) (k:Nat) (a0 a1 a2:V) (S:St) (K:KS):An:=
bY (aH (a0:V).cells) (dR (aY none S (.row 0 (a0:V).cells.length [(a0:V).cells])) fun r0=>
dR (aA prog 59 (.ptr r0.1 0 0 0) 0) fun t1=>
dR (aB prog 3 t1 r0.2) fun t2=>
dR (aD prog .lss 3 t2 (.int .i64 1)) fun t3=>
aE t3 (K (.bool false) r0.2) (dR (aA prog 59 (.ptr r0.1 0 0 0) 0) fun t4=>
dR (aB prog 3 t4 r0.2) fun t5=>
dR (aD prog .lss 3 t5 a1) fun t6=>
aE t6 (K (.bool false) r0.2) (dR (aA prog 59 (.ptr r0.1 0 0 0) 0) fun t7=>
dR (aB prog 3 t7 r0.2) fun t8=>
dR (aD prog .gtr 3 t8 a2) fun t9=>
aE t9 (K (.bool false) r0.2) (dR (aA prog 59 (.ptr r0.1 0 0 0) 1) fun t10=>
dR (aB prog 3 t10 r0.2) fun t11=>
dR (aD prog .lss 3 t11 (.int .i64 0)) fun t12=>
aE t12 (K (.bool false) r0.2) (dR (aA prog 59 (.ptr r0.1 0 0 0) 1) fun t13=>
dR (aB prog 3 t13 r0.2) fun t14=>
dR (aD prog .gtr 3 t14 (.int .i64 127)) fun t15=>
aE t15 (K (.bool false) r0.2) (dR (aA prog 59 (.ptr r0.1 0 0 0) 2) fun t16=>
dR (aB prog 9 t16 r0.2) fun t17=>
dR (dI prog 9 t17 r0.2) fun t18=>
dR (aD prog .leq 3 t18 (.int .i64 1100)) fun t19=>
aE t19 (dR (aA prog 59 (.ptr r0.1 0 0 0) 1) fun t20=>
dR (aB prog 3 t20 r0.2) fun t21=>
bY (aN prog 3 t21 (.int .i64 0)) (dR (aD prog .eql 3 t21 (.int .i64 0)) fun t22=>
aE t22 (K (.bool true) r0.2) (dR (aA prog 59 (.ptr r0.1 0 0 0) 2) fun t23=>
dR (aB prog 9 t23 r0.2) fun t24=>
bY (aN prog 9 t24 (.str [])) (dR (aD prog .eql 9 t24 (.str [])) fun t25=>
K t25 r0.2)))) (K (.bool false) r0.2)))))))
theorem aQ0:(fun (k:Nat) (a0 a1 a2:V) (S:St) (K:KS)=>aC prog bD bE (k+1) 95 [a0,a1,a2] S K)=fun k a0 a1 a2 S K=>m95 (aC prog bD bE k) k a0 a1 a2 S K:=by kernel_rfl
noncomputable def uV (C:aT) (k:Nat) (K:KS) (p0:V) (vs:List V) (S:St) (again0:List V→St→An):An:=
oL vs fun x3 vs=>
oL vs fun x5 vs=>
dR (aD prog .lss 3 x5 (.int .i64 7)) fun t0=>
aE t0 (C 50 [p0,x5] S fun t1 S2=>
aE t1 (dR (bS prog 68 1 [(0,x5)] none S2) fun r3=>
dR (cE prog 68 x3 r3.1 none r3.2) fun r4=>
dR (aD prog .add 3 x5 (.int .i64 1)) fun t5=>
again0 [r4.1,t5] r4.2) (dR (aD prog .add 3 x5 (.int .i64 1)) fun t6=>
again0 [x3,t6] S2)) (K x3 S)
noncomputable def aMb (C:aT) (k:Nat) (a0:V) (S:St) (K:KS):An:=
cW k [(.nils),(.int .i64 0)] S (uV C k K a0)
theorem aMc:(fun (k:Nat) (a0:V) (S:St) (K:KS)=>aC prog bD bE (k+1) 101 [a0] S K)=fun k a0 S K=>aMb (aC prog bD bE k) k a0 S K:=by kernel_rfl
noncomputable def aMd (C:aT) (k:Nat) (a0:V) (S:St) (K:KS):An:=
bY (aH (a0:V).cells) (dR (aY none S (.row 0 (a0:V).cells.length [(a0:V).cells])) fun r0=>
dR (aA prog 37 (.ptr r0.1 0 0 0) 0) fun t1=>
dR (aB prog 3 t1 r0.2) fun t2=>
bY (aN prog 3 t2 (.int .i64 1)) (dR (aD prog .eql 3 t2 (.int .i64 1)) fun t3=>
aE t3 (dR (aB prog 37 (.ptr r0.1 0 0 0) r0.2) fun t4=>
dR (aA prog 37 (.ptr r0.1 0 0 0) 4) fun t5=>
dR (aB prog 3 t5 r0.2) fun t6=>
dR (aA prog 37 (.ptr r0.1 0 0 0) 5) fun t7=>
dR (aB prog 3 t7 r0.2) fun t8=>
dR (bM prog 37 [(4,t6),(5,t8)]) fun t9=>
C 107 [t4,t9] r0.2 fun t10 S11=>
K t10 S11) (bY (aN prog 3 t2 (.int .i64 2)) (dR (aD prog .eql 3 t2 (.int .i64 2)) fun t12=>
aE t12 (dR (aB prog 37 (.ptr r0.1 0 0 0) r0.2) fun t13=>
dR (aA prog 37 (.ptr r0.1 0 0 0) 10) fun t14=>
dR (aB prog 4 t14 r0.2) fun t15=>
dR (bM prog 37 [(10,t15)]) fun t16=>
C 107 [t13,t16] r0.2 fun t17 S18=>
K t17 S18) (bY (aN prog 3 t2 (.int .i64 3)) (dR (aD prog .eql 3 t2 (.int .i64 3)) fun t19=>
aE t19 (dR (aB prog 37 (.ptr r0.1 0 0 0) r0.2) fun t20=>
dR (aA prog 37 (.ptr r0.1 0 0 0) 4) fun t21=>
dR (aB prog 3 t21 r0.2) fun t22=>
dR (aA prog 37 (.ptr r0.1 0 0 0) 5) fun t23=>
dR (aB prog 3 t23 r0.2) fun t24=>
dR (aA prog 37 (.ptr r0.1 0 0 0) 12) fun t25=>
dR (aB prog 22 t25 r0.2) fun t26=>
dR (aA prog 37 (.ptr r0.1 0 0 0) 6) fun t27=>
dR (aB prog 3 t27 r0.2) fun t28=>
dR (bM prog 37 [(4,t22),(5,t24),(12,t26),(6,t28)]) fun t29=>
C 107 [t20,t29] r0.2 fun t30 S31=>
K t30 S31) (bY (aN prog 3 t2 (.int .i64 4)) (dR (aD prog .eql 3 t2 (.int .i64 4)) fun t32=>
aE t32 (dR (aB prog 37 (.ptr r0.1 0 0 0) r0.2) fun t33=>
dR (aA prog 37 (.ptr r0.1 0 0 0) 10) fun t34=>
dR (aB prog 4 t34 r0.2) fun t35=>
dR (aA prog 37 (.ptr r0.1 0 0 0) 4) fun t36=>
dR (aB prog 3 t36 r0.2) fun t37=>
dR (bM prog 37 [(10,t35),(4,t37)]) fun t38=>
C 107 [t33,t38] r0.2 fun t39 S40=>
K t39 S40) (bY (aN prog 3 t2 (.int .i64 5)) (dR (aD prog .eql 3 t2 (.int .i64 5)) fun t41=>
aE t41 (dR (aB prog 37 (.ptr r0.1 0 0 0) r0.2) fun t42=>
dR (aA prog 37 (.ptr r0.1 0 0 0) 4) fun t43=>
dR (aB prog 3 t43 r0.2) fun t44=>
dR (aA prog 37 (.ptr r0.1 0 0 0) 5) fun t45=>
dR (aB prog 3 t45 r0.2) fun t46=>
dR (aA prog 37 (.ptr r0.1 0 0 0) 7) fun t47=>
dR (aB prog 3 t47 r0.2) fun t48=>
dR (aA prog 37 (.ptr r0.1 0 0 0) 8) fun t49=>
dR (aB prog 3 t49 r0.2) fun t50=>
dR (aA prog 37 (.ptr r0.1 0 0 0) 9) fun t51=>
dR (aB prog 3 t51 r0.2) fun t52=>
dR (aA prog 37 (.ptr r0.1 0 0 0) 11) fun t53=>
dR (aB prog 9 t53 r0.2) fun t54=>
dR (bM prog 37 [(4,t44),(5,t46),(7,t48),(8,t50),(9,t52),(11,t54)]) fun t55=>
C 107 [t42,t55] r0.2 fun t56 S57=>
K t56 S57) (bY (aN prog 3 t2 (.int .i64 6)) (dR (aD prog .eql 3 t2 (.int .i64 6)) fun t58=>
aE t58 (dR (aB prog 37 (.ptr r0.1 0 0 0) r0.2) fun t59=>
dR (aA prog 37 (.ptr r0.1 0 0 0) 4) fun t60=>
dR (aB prog 3 t60 r0.2) fun t61=>
dR (aA prog 37 (.ptr r0.1 0 0 0) 8) fun t62=>
dR (aB prog 3 t62 r0.2) fun t63=>
dR (bM prog 37 [(4,t61),(8,t63)]) fun t64=>
C 107 [t59,t64] r0.2 fun t65 S66=>
K t65 S66) (K (.bool false) r0.2)))))))))))))
theorem aMe:(fun (k:Nat) (a0:V) (S:St) (K:KS)=>aC prog bD bE (k+1) 102 [a0] S K)=fun k a0 S K=>aMd (aC prog bD bE k) k a0 S K:=by kernel_rfl
noncomputable def aMf (C:aT) (k:Nat) (a0 a1 a2:V) (S:St) (K:KS):An:=
dR (aD prog .geq 3 a0 a1) fun t0=>
aE t0 (dR (aD prog .leq 3 a0 a2) fun t1=>
K t1 S) (K (.bool false) S)
theorem aMg:(fun (k:Nat) (a0 a1 a2:V) (S:St) (K:KS)=>aC prog bD bE (k+1) 103 [a0,a1,a2] S K)=fun k a0 a1 a2 S K=>aMf (aC prog bD bE k) k a0 a1 a2 S K:=by kernel_rfl
noncomputable def aMh (C:aT) (k:Nat) (a0:V) (S:St) (K:KS):An:=
bY (aH (a0:V).cells) (dR (aY none S (.row 0 (a0:V).cells.length [(a0:V).cells])) fun r0=>
dR (aA prog 37 (.ptr r0.1 0 0 0) 12) fun t1=>
dR (aB prog 22 t1 r0.2) fun t2=>
dR (dI prog 22 t2 r0.2) fun t3=>
dR (aD prog .gtr 3 t3 (.int .i64 8)) fun t4=>
aE t4 (K (.bool false) r0.2) (dR (aA prog 37 (.ptr r0.1 0 0 0) 12) fun t5=>
dR (aB prog 22 t5 r0.2) fun t6=>
dR (dI prog 22 t6 r0.2) fun t7=>
dR (aA prog 37 (.ptr r0.1 0 0 0) 4) fun t8=>
dR (aB prog 3 t8 r0.2) fun t9=>
dR (aD prog .sub 3 (.int .i64 1099511627776) t9) fun t10=>
dR (aD prog .gtr 3 t7 t10) fun t11=>
aE t11 (K (.bool false) r0.2) (dR (aA prog 37 (.ptr r0.1 0 0 0) 3) fun t12=>
dR (aB prog 3 t12 r0.2) fun t13=>
dR (aA prog 37 (.ptr r0.1 0 0 0) 4) fun t14=>
dR (aB prog 3 t14 r0.2) fun t15=>
dR (aA prog 37 (.ptr r0.1 0 0 0) 5) fun t16=>
dR (aB prog 3 t16 r0.2) fun t17=>
dR (aA prog 37 (.ptr r0.1 0 0 0) 12) fun t18=>
dR (aB prog 22 t18 r0.2) fun t19=>
dR (bM prog 24 [(0,t13),(1,(.int .i64 (-1))),(2,t15),(3,t17),(4,(.int .i64 1)),(6,t19)]) fun t20=>
dR (aY none r0.2 (.row 0 7 [[.int .i64 0,.int .i64 0,.int .i64 0,.int .i64 0,.int .i64 0,.str [],.nils]])) fun r21=>
dR (aV prog 24 (.ptr r21.1 0 0 0) t20 r21.2) fun S22=>
dR (aA prog 37 (.ptr r0.1 0 0 0) 4) fun t23=>
dR (aB prog 3 t23 S22) fun t24=>
dR (aD prog .gtr 3 t24 (.int .i64 0)) fun t25=>
aE t25 (dR (aA prog 24 (.ptr r21.1 0 0 0) 5) fun t26=>
dR (aV prog 9 t26 (.str [115]) S22) fun S27=>
dR (aB prog 24 (.ptr r21.1 0 0 0) S27) fun t28=>
C 33 [t28] S27 fun t29 S30=>
K t29 S30) (dR (aB prog 24 (.ptr r21.1 0 0 0) S22) fun t31=>
C 33 [t31] S22 fun t32 S33=>
K t32 S33))))
theorem aMi:(fun (k:Nat) (a0:V) (S:St) (K:KS)=>aC prog bD bE (k+1) 104 [a0] S K)=fun k a0 S K=>aMh (aC prog bD bE k) k a0 S K:=by kernel_rfl
noncomputable def aMj (C:aT) (k:Nat) (a0:V) (S:St) (K:KS):An:=
bY (aH (a0:V).cells) (dR (aY none S (.row 0 (a0:V).cells.length [(a0:V).cells])) fun r0=>
dR (aA prog 37 (.ptr r0.1 0 0 0) 4) fun t1=>
dR (aB prog 3 t1 r0.2) fun t2=>
bY (aN prog 3 t2 (.int .i64 0)) (dR (aD prog .eql 3 t2 (.int .i64 0)) fun t3=>
aE t3 (K (.bool false) r0.2) (dR (aA prog 37 (.ptr r0.1 0 0 0) 5) fun t4=>
dR (aB prog 3 t4 r0.2) fun t5=>
bY (aN prog 3 t5 (.int .i64 0)) (dR (aD prog .eql 3 t5 (.int .i64 0)) fun t6=>
aE t6 (K (.bool false) r0.2) (dR (aA prog 37 (.ptr r0.1 0 0 0) 7) fun t7=>
dR (aB prog 3 t7 r0.2) fun t8=>
C 103 [t8,(.int .i64 1),(.int .i64 127)] r0.2 fun t9 S10=>
dR (yB .not t9) fun t11=>
aE t11 (K (.bool false) S10) (dR (aA prog 37 (.ptr r0.1 0 0 0) 9) fun t12=>
dR (aB prog 3 t12 S10) fun t13=>
C 103 [t13,(.int .i64 1),(.int .i64 65536)] S10 fun t14 S15=>
dR (yB .not t14) fun t16=>
aE t16 (K (.bool false) S15) (dR (aA prog 37 (.ptr r0.1 0 0 0) 8) fun t17=>
dR (aB prog 3 t17 S15) fun t18=>
dR (aA prog 37 (.ptr r0.1 0 0 0) 9) fun t19=>
dR (aB prog 3 t19 S15) fun t20=>
dR (aD prog .sub 3 t20 (.int .i64 1)) fun t21=>
C 103 [t18,(.int .i64 0),t21] S15 fun t22 S23=>
dR (yB .not t22) fun t24=>
aE t24 (K (.bool false) S23) (dR (aA prog 37 (.ptr r0.1 0 0 0) 11) fun t25=>
dR (aB prog 9 t25 S23) fun t26=>
dR (dI prog 9 t26 S23) fun t27=>
dR (aD prog .geq 3 t27 (.int .i64 1)) fun t28=>
aE t28 (dR (aA prog 37 (.ptr r0.1 0 0 0) 11) fun t29=>
dR (aB prog 9 t29 S23) fun t30=>
dR (dI prog 9 t30 S23) fun t31=>
dR (aD prog .leq 3 t31 (.int .i64 600)) fun t32=>
aE t32 (dR (aA prog 37 (.ptr r0.1 0 0 0) 11) fun t33=>
dR (aB prog 9 t33 S23) fun t34=>
dR (dI prog 9 t34 S23) fun t35=>
dR (aA prog 37 (.ptr r0.1 0 0 0) 9) fun t36=>
dR (aB prog 3 t36 S23) fun t37=>
dR (aA prog 37 (.ptr r0.1 0 0 0) 8) fun t38=>
dR (aB prog 3 t38 S23) fun t39=>
dR (aD prog .sub 3 t37 t39) fun t40=>
dR (aD prog .leq 3 t35 t40) fun t41=>
K t41 S23) (K (.bool false) S23)) (K (.bool false) S23)))))))))
theorem aMk:(fun (k:Nat) (a0:V) (S:St) (K:KS)=>aC prog bD bE (k+1) 105 [a0] S K)=fun k a0 S K=>aMj (aC prog bD bE k) k a0 S K:=by kernel_rfl
noncomputable def aMl (C:aT) (k:Nat) (a0:V) (S:St) (K:KS):An:=
aZ a0 (dR (aA prog 88 a0 5) fun t0=>
dR (aB prog 3 t0 S) fun t1=>
aZ a0 (dR (aA prog 88 a0 2) fun t2=>
dR (aV prog 3 t2 (.int .i64 1) S) fun S3=>
aZ a0 (dR (aA prog 88 a0 3) fun t4=>
dR (aV prog 3 t4 (.int .i64 (-1)) S3) fun S5=>
aZ a0 (dR (aA prog 88 a0 6) fun t6=>
dR (aV prog 3 t6 t1 S5) fun S7=>
K (.tup []) S7))))
theorem aMm:(fun (k:Nat) (a0:V) (S:St) (K:KS)=>aC prog bD bE (k+1) 106 [a0] S K)=fun k a0 S K=>aMl (aC prog bD bE k) k a0 S K:=by kernel_rfl
noncomputable def aMn (C:aT) (k:Nat) (a0 a1:V) (S:St) (K:KS):An:=
bY (aH (a0:V).cells) (dR (aY none S (.row 0 (a0:V).cells.length [(a0:V).cells])) fun r0=>
bY (aH (a1:V).cells) (dR (aY none r0.2 (.row 0 (a1:V).cells.length [(a1:V).cells])) fun r1=>
dR (aA prog 37 (.ptr r0.1 0 0 0) 12) fun t2=>
dR (aB prog 22 t2 r1.2) fun t3=>
dR (dI prog 22 t3 r1.2) fun t4=>
dR (aA prog 37 (.ptr r1.1 0 0 0) 12) fun t5=>
dR (aB prog 22 t5 r1.2) fun t6=>
dR (dI prog 22 t6 r1.2) fun t7=>
bY (aN prog 3 t4 t7) (dR (aD prog .neq 3 t4 t7) fun t8=>
aE t8 (K (.bool false) r1.2) (dR (aA prog 37 (.ptr r0.1 0 0 0) 4) fun t9=>
dR (aB prog 3 t9 r1.2) fun t10=>
dR (aA prog 37 (.ptr r1.1 0 0 0) 4) fun t11=>
dR (aB prog 3 t11 r1.2) fun t12=>
bY (aN prog 3 t10 t12) (dR (aD prog .eql 3 t10 t12) fun t13=>
aE t13 (dR (aA prog 37 (.ptr r0.1 0 0 0) 5) fun t14=>
dR (aB prog 3 t14 r1.2) fun t15=>
dR (aA prog 37 (.ptr r1.1 0 0 0) 5) fun t16=>
dR (aB prog 3 t16 r1.2) fun t17=>
bY (aN prog 3 t15 t17) (dR (aD prog .eql 3 t15 t17) fun t18=>
aE t18 (dR (aA prog 37 (.ptr r0.1 0 0 0) 6) fun t19=>
dR (aB prog 3 t19 r1.2) fun t20=>
dR (aA prog 37 (.ptr r1.1 0 0 0) 6) fun t21=>
dR (aB prog 3 t21 r1.2) fun t22=>
bY (aN prog 3 t20 t22) (dR (aD prog .eql 3 t20 t22) fun t23=>
aE t23 (dR (aA prog 37 (.ptr r0.1 0 0 0) 7) fun t24=>
dR (aB prog 3 t24 r1.2) fun t25=>
dR (aA prog 37 (.ptr r1.1 0 0 0) 7) fun t26=>
dR (aB prog 3 t26 r1.2) fun t27=>
bY (aN prog 3 t25 t27) (dR (aD prog .eql 3 t25 t27) fun t28=>
aE t28 (dR (aA prog 37 (.ptr r0.1 0 0 0) 8) fun t29=>
dR (aB prog 3 t29 r1.2) fun t30=>
dR (aA prog 37 (.ptr r1.1 0 0 0) 8) fun t31=>
dR (aB prog 3 t31 r1.2) fun t32=>
bY (aN prog 3 t30 t32) (dR (aD prog .eql 3 t30 t32) fun t33=>
aE t33 (dR (aA prog 37 (.ptr r0.1 0 0 0) 9) fun t34=>
dR (aB prog 3 t34 r1.2) fun t35=>
dR (aA prog 37 (.ptr r1.1 0 0 0) 9) fun t36=>
dR (aB prog 3 t36 r1.2) fun t37=>
bY (aN prog 3 t35 t37) (dR (aD prog .eql 3 t35 t37) fun t38=>
aE t38 (dR (aA prog 37 (.ptr r0.1 0 0 0) 10) fun t39=>
dR (aB prog 4 t39 r1.2) fun t40=>
dR (aA prog 37 (.ptr r1.1 0 0 0) 10) fun t41=>
dR (aB prog 4 t41 r1.2) fun t42=>
bY (aN prog 4 t40 t42) (dR (aD prog .eql 4 t40 t42) fun t43=>
aE t43 (dR (aA prog 37 (.ptr r0.1 0 0 0) 11) fun t44=>
dR (aB prog 9 t44 r1.2) fun t45=>
dR (aA prog 37 (.ptr r1.1 0 0 0) 11) fun t46=>
dR (aB prog 9 t46 r1.2) fun t47=>
bY (aN prog 9 t45 t47) (dR (aD prog .eql 9 t45 t47) fun t48=>
K t48 r1.2)) (K (.bool false) r1.2))) (K (.bool false) r1.2))) (K (.bool false) r1.2))) (K (.bool false) r1.2))) (K (.bool false) r1.2))) (K (.bool false) r1.2))) (K (.bool false) r1.2))))))
theorem aMo:(fun (k:Nat) (a0 a1:V) (S:St) (K:KS)=>aC prog bD bE (k+1) 107 [a0,a1] S K)=fun k a0 a1 S K=>aMn (aC prog bD bE k) k a0 a1 S K:=by kernel_rfl
theorem aDo (s x:V) (fr:Option Nat) (S:St):cE prog 22 s x fr S=fN 3 32 s x fr S:=jI (by kernel_rfl) s x fr S
theorem aRr (s x:V) (fr:Option Nat) (S:St):cE prog 43 s x fr S=fN 13 128 s x fr S:=jI (by kernel_rfl) s x fr S
theorem aO4 (s x:V) (fr:Option Nat) (S:St):cE prog 68 s x fr S=fN 1 8 s x fr S:=jI (by kernel_rfl) s x fr S
theorem aRs (s x:V) (fr:Option Nat) (S:St):cE prog 74 s x fr S=fN 1 1 s x fr S:=jI (by kernel_rfl) s x fr S
theorem aRt (parts:List (Nat×V)):bM prog 102 parts=dB [.int .i64 0,.int .i64 0,.int .i64 0,.nils] [(0,1),(1,1),(2,1),(3,1)] parts:=gR (by kernel_rfl) parts
theorem aQ1 (parts:List (Nat×V)):bM prog 24 parts=dB [.int .i64 0,.int .i64 0,.int .i64 0,.int .i64 0,.int .i64 0,.str [],.nils] [(0,1),(1,1),(2,1),(3,1),(4,1),(5,1),(6,1)] parts:=gR (by kernel_rfl) parts
theorem rI (parts:List (Nat×V)):bM prog 37 parts=dB [.int .i64 0,.int .i64 0,.int .i64 0,.int .i64 0,.int .i64 0,.int .i64 0,.int .i64 0,.int .i64 0,.int .i64 0,.int .i64 0,.bool false,.str [],.nils] [(0,1),(1,1),(2,1),(3,1),(4,1),(5,1),(6,1),(7,1),(8,1),(9,1),(10,1),(11,1),(12,1)] parts:=gR (by kernel_rfl) parts
theorem aUe (parts:List (Nat×V)):bM prog 50 parts=dB [.int .i64 0,.int .i64 0,.int .i64 0,.int .i64 0,.int .i64 0,.int .i64 0] [(0,1),(1,1),(2,1),(3,1),(4,1),(5,1)] parts:=gR (by kernel_rfl) parts
theorem aUf (parts:List (Nat×V)):bM prog 59 parts=dB [.int .i64 0,.int .i64 0,.str []] [(0,1),(1,1),(2,1)] parts:=gR (by kernel_rfl) parts
theorem aRu (parts:List (Nat×V)):bM prog 84 parts=dB [.int .i64 0,.int .i64 0,.int .i64 0] [(0,1),(1,1),(2,1)] parts:=gR (by kernel_rfl) parts
theorem aUg (parts:List (Nat×V)):bM prog 88 parts=dB [.int .i64 0,.int .i64 0,.int .i64 0,.int .i64 0,.int .i64 0,.int .i64 0,.str [],.nils,.int .i64 0,.int .i64 0,.int .i64 0,.int .i64 0,.int .i64 0,.int .i64 0,.int .i64 0,.int .i64 0,.int .i64 0,.int .i64 0,.int .i64 0,.int .i64 0,.int .i64 0,.int .i64 0,.int .i64 0,.int .i64 0,.int .i64 0,.int .i64 0,.int .i64 0,.int .i64 0,.int .i64 0,.int .i64 0,.int .i64 0,.int .i64 0,.int .i64 0,.int .i64 0,.int .i64 0,.nilp,.nils] [(0,1),(1,7),(8,1),(9,1),(10,1),(11,1),(12,1),(13,1),(14,21),(35,1),(36,1)] parts:=gR (by kernel_rfl) parts
theorem aRv (len:Nat) (parts:List (Nat×V)) (fr:Option Nat) (S:St):bS prog 22 len parts fr S=cN 3 [.int .i64 0,.int .i64 0,.str []] len parts fr S:=jH (by kernel_rfl) len parts fr S
theorem aUh (len:Nat) (parts:List (Nat×V)) (fr:Option Nat) (S:St):bS prog 43 len parts fr S=cN 13 [.int .i64 0,.int .i64 0,.int .i64 0,.int .i64 0,.int .i64 0,.int .i64 0,.int .i64 0,.int .i64 0,.int .i64 0,.int .i64 0,.bool false,.str [],.nils] len parts fr S:=jH (by kernel_rfl) len parts fr S
theorem aRw (len:Nat) (parts:List (Nat×V)) (fr:Option Nat) (S:St):bS prog 68 len parts fr S=cN 1 [.int .i64 0] len parts fr S:=jH (by kernel_rfl) len parts fr S
theorem aRx (j:IntKind) (n:Int) (fr:Option Nat) (S:St):bP prog 3 5 (.int j n) fr S=.ok (.int .u8 (wr .u8 n),S):=tW (by kernel_rfl) j n fr S
theorem aBm (j:IntKind) (n:Int) (fr:Option Nat) (S:St):bP prog 3 96 (.int j n) fr S=.ok (.int .u64 (wr .u64 n),S):=tW (by kernel_rfl) j n fr S
theorem aMp (p:V):aA prog 102 p 0=advW 0 p:=aI (by kernel_rfl) p
theorem aMq (p:V):aA prog 102 p 1=advW 1 p:=aI (by kernel_rfl) p
theorem aH3 (p:V):aA prog 102 p 2=advW 2 p:=aI (by kernel_rfl) p
theorem aH4 (p:V):aA prog 102 p 3=advW 3 p:=aI (by kernel_rfl) p
theorem lF (p:V):aA prog 24 p 0=advW 0 p:=aI (by kernel_rfl) p
theorem wX (p:V):aA prog 24 p 1=advW 1 p:=aI (by kernel_rfl) p
theorem fP (p:V):aA prog 24 p 2=advW 2 p:=aI (by kernel_rfl) p
theorem wY (p:V):aA prog 24 p 3=advW 3 p:=aI (by kernel_rfl) p
theorem wZ (p:V):aA prog 24 p 4=advW 4 p:=aI (by kernel_rfl) p
theorem pR (p:V):aA prog 24 p 5=advW 5 p:=aI (by kernel_rfl) p
theorem iJ (p:V):aA prog 24 p 6=advW 6 p:=aI (by kernel_rfl) p
theorem pS (p:V):aA prog 37 p 0=advW 0 p:=aI (by kernel_rfl) p
theorem eH (p:V):aA prog 37 p 1=advW 1 p:=aI (by kernel_rfl) p
theorem uW (p:V):aA prog 37 p 10=advW 10 p:=aI (by kernel_rfl) p
theorem uX (p:V):aA prog 37 p 11=advW 11 p:=aI (by kernel_rfl) p
theorem rJ (p:V):aA prog 37 p 12=advW 12 p:=aI (by kernel_rfl) p
theorem aKf (p:V):aA prog 37 p 2=advW 2 p:=aI (by kernel_rfl) p
theorem xA (p:V):aA prog 37 p 3=advW 3 p:=aI (by kernel_rfl) p
theorem dF (p:V):aA prog 37 p 4=advW 4 p:=aI (by kernel_rfl) p
theorem jJ (p:V):aA prog 37 p 5=advW 5 p:=aI (by kernel_rfl) p
theorem aBn (p:V):aA prog 37 p 6=advW 6 p:=aI (by kernel_rfl) p
theorem aBo (p:V):aA prog 37 p 7=advW 7 p:=aI (by kernel_rfl) p
theorem pT (p:V):aA prog 37 p 8=advW 8 p:=aI (by kernel_rfl) p
theorem xB (p:V):aA prog 37 p 9=advW 9 p:=aI (by kernel_rfl) p
theorem sV (p:V):aA prog 59 p 0=advW 0 p:=aI (by kernel_rfl) p
theorem aKg (p:V):aA prog 59 p 1=advW 1 p:=aI (by kernel_rfl) p
theorem aQ2 (p:V):aA prog 59 p 2=advW 2 p:=aI (by kernel_rfl) p
theorem aBp (p:V):aA prog 84 p 0=advW 0 p:=aI (by kernel_rfl) p
theorem xD (p:V):aA prog 84 p 1=advW 1 p:=aI (by kernel_rfl) p
theorem aKh (p:V):aA prog 84 p 2=advW 2 p:=aI (by kernel_rfl) p
theorem mU (p:V):aA prog 88 p 0=advW 0 p:=aI (by kernel_rfl) p
theorem dL (p:V):aA prog 88 p 1=advW 1 p:=aI (by kernel_rfl) p
theorem aH5 (p:V):aA prog 88 p 10=advW 36 p:=aI (by kernel_rfl) p
theorem fW (p:V):aA prog 88 p 2=advW 8 p:=aI (by kernel_rfl) p
theorem pU (p:V):aA prog 88 p 3=advW 9 p:=aI (by kernel_rfl) p
theorem iK (p:V):aA prog 88 p 4=advW 10 p:=aI (by kernel_rfl) p
theorem xE (p:V):aA prog 88 p 5=advW 11 p:=aI (by kernel_rfl) p
theorem lG (p:V):aA prog 88 p 6=advW 12 p:=aI (by kernel_rfl) p
theorem aKi (p:V):aA prog 88 p 7=advW 13 p:=aI (by kernel_rfl) p
theorem sW (p:V):aA prog 88 p 8=advW 14 p:=aI (by kernel_rfl) p
theorem aBq (p:V):aA prog 88 p 9=advW 35 p:=aI (by kernel_rfl) p
theorem aQ3 (cs:List V):iZ prog 24 (.agg cs) 5=eS none cs 5:=aA3 (t:=9) (by kernel_rfl) (by kernel_rfl) cs
theorem aQ4 (cs:List V):iZ prog 50 (.agg cs) 2=eS none cs 2:=aA3 (t:=3) (by kernel_rfl) (by kernel_rfl) cs
theorem aKj (x i:V):bA prog 22 x i=jX 3 x i:=fR (by kernel_rfl) x i
theorem aKk (x i:V):bA prog 43 x i=jX 13 x i:=fR (by kernel_rfl) x i
theorem aQ5 (x i:V):bA prog 68 x i=jX 1 x i:=fR (by kernel_rfl) x i
theorem aUi (x i:V):bA prog 72 x i=jX 1 x i:=fR (by kernel_rfl) x i
theorem aUj (x i:V):bA prog 74 x i=jX 1 x i:=fR (by kernel_rfl) x i
theorem oA (p:V) (S:St):aB prog 22 p S=aM none p S:=eF (by kernel_rfl) p S
theorem yQ (p:V) (S:St):aB prog 24 p S=aM (some 7) p S:=eF (by kernel_rfl) p S
theorem eQ (p:V) (S:St):aB prog 3 p S=aM none p S:=eF (by kernel_rfl) p S
theorem xF (p:V) (S:St):aB prog 37 p S=aM (some 13) p S:=eF (by kernel_rfl) p S
theorem ld4 (p:V) (S:St):aB prog 4 p S=aM none p S:=eF (by kernel_rfl) p S
theorem aRz (p:V) (S:St):aB prog 43 p S=aM none p S:=eF (by kernel_rfl) p S
theorem aUk (p:V) (S:St):aB prog 50 p S=aM (some 6) p S:=eF (by kernel_rfl) p S
theorem aMr (p:V) (S:St):aB prog 59 p S=aM (some 3) p S:=eF (by kernel_rfl) p S
theorem aS0 (p:V) (S:St):aB prog 74 p S=aM none p S:=eF (by kernel_rfl) p S
theorem aUl (p:V) (S:St):aB prog 84 p S=aM (some 3) p S:=eF (by kernel_rfl) p S
theorem aUm (p:V) (S:St):aB prog 85 p S=aM (some 21) p S:=eF (by kernel_rfl) p S
theorem aS1 (p:V) (S:St):aB prog 86 p S=aM none p S:=eF (by kernel_rfl) p S
theorem ld9 (p:V) (S:St):aB prog 9 p S=aM none p S:=eF (by kernel_rfl) p S
theorem rK (x:V) (S:St):dI prog 22 x S=lenW x:=rG (by kernel_rfl) x S
theorem aH6 (x:V) (S:St):dI prog 43 x S=lenW x:=rG (by kernel_rfl) x S
theorem aH7 (x:V) (S:St):dI prog 68 x S=lenW x:=rG (by kernel_rfl) x S
theorem aS2 (x:V) (S:St):dI prog 72 x S=lenW x:=rG (by kernel_rfl) x S
theorem aO5 (x:V) (S:St):dI prog 74 x S=lenW x:=rG (by kernel_rfl) x S
theorem aMs (p x:V) (S:St):aV prog 22 p x S=bG 1 p x S:=eG (by kernel_rfl) p x S
theorem aKl (p x:V) (S:St):aV prog 24 p x S=bG 7 p x S:=eG (by kernel_rfl) p x S
theorem st3 (p x:V) (S:St):aV prog 3 p x S=bG 1 p x S:=eG (by kernel_rfl) p x S
theorem aS3 (p x:V) (S:St):aV prog 43 p x S=bG 1 p x S:=eG (by kernel_rfl) p x S
theorem st5 (p x:V) (S:St):aV prog 5 p x S=bG 1 p x S:=eG (by kernel_rfl) p x S
theorem aUn (p x:V) (S:St):aV prog 50 p x S=bG 6 p x S:=eG (by kernel_rfl) p x S
theorem aQ6 (p x:V) (S:St):aV prog 59 p x S=bG 3 p x S:=eG (by kernel_rfl) p x S
theorem aUo (p x:V) (S:St):aV prog 74 p x S=bG 1 p x S:=eG (by kernel_rfl) p x S
theorem aKm (p x:V) (S:St):aV prog 84 p x S=bG 3 p x S:=eG (by kernel_rfl) p x S
theorem aS4 (p x:V) (S:St):aV prog 86 p x S=bG 1 p x S:=eG (by kernel_rfl) p x S
theorem st9 (p x:V) (S:St):aV prog 9 p x S=bG 1 p x S:=eG (by kernel_rfl) p x S
theorem e7 {a0 a1:V} {S:St} {Q:V→St→Prop} (h:Ok (fun k K=>m7 (aC prog bD bE k) k a0 a1 S K) Q):Does prog bD bE 7 [a0,a1] S Q:=
 Does.enter (m:=fun C k K=>m7 C k a0 a1 S K) (fun k K=>congrFun (congrFun (congrFun (congrFun (congrFun aRq k) a0) a1) S) K) h
theorem e11 {a0 a1 a2:V} {S:St} {Q:V→St→Prop} (h:Ok (fun k K=>m11 (aC prog bD bE k) k a0 a1 a2 S K) Q):Does prog bD bE 11 [a0,a1,a2] S Q:=
 Does.enter (m:=fun C k K=>m11 C k a0 a1 a2 S K) (fun k K=>congrFun (congrFun (congrFun (congrFun (congrFun (congrFun aOy k) a0) a1) a2) S) K) h
theorem e14 {a0:V} {S:St} {Q:V→St→Prop} (h:Ok (fun k K=>m14 (aC prog bD bE k) k a0 S K) Q):Does prog bD bE 14 [a0] S Q:=
 Does.enter (m:=fun C k K=>m14 C k a0 S K) (fun k K=>congrFun (congrFun (congrFun (congrFun aOz k) a0) S) K) h
theorem e17 {a0:V} {S:St} {Q:V→St→Prop} (h:Ok (fun k K=>m17 (aC prog bD bE k) k a0 S K) Q):Does prog bD bE 17 [a0] S Q:=
 Does.enter (m:=fun C k K=>m17 C k a0 S K) (fun k K=>congrFun (congrFun (congrFun (congrFun aP0 k) a0) S) K) h
theorem e18 {a0 a1:V} {S:St} {Q:V→St→Prop} (h:Ok (fun k K=>m18 (aC prog bD bE k) k a0 a1 S K) Q):Does prog bD bE 18 [a0,a1] S Q:=
 Does.enter (m:=fun C k K=>m18 C k a0 a1 S K) (fun k K=>congrFun (congrFun (congrFun (congrFun (congrFun aP1 k) a0) a1) S) K) h
theorem e19 {a0 a1:V} {S:St} {Q:V→St→Prop} (h:Ok (fun k K=>m19 (aC prog bD bE k) k a0 a1 S K) Q):Does prog bD bE 19 [a0,a1] S Q:=
 Does.enter (m:=fun C k K=>m19 C k a0 a1 S K) (fun k K=>congrFun (congrFun (congrFun (congrFun (congrFun aP2 k) a0) a1) S) K) h
theorem e27 {a0:V} {S:St} {Q:V→St→Prop} (h:Ok (fun k K=>m27 (aC prog bD bE k) k a0 S K) Q):Does prog bD bE 27 [a0] S Q:=
 Does.enter (m:=fun C k K=>m27 C k a0 S K) (fun k K=>congrFun (congrFun (congrFun (congrFun aP3 k) a0) S) K) h
theorem e33 {a0:V} {S:St} {Q:V→St→Prop} (h:Ok (fun k K=>m33 (aC prog bD bE k) k a0 S K) Q):Does prog bD bE 33 [a0] S Q:=
 Does.enter (m:=fun C k K=>m33 C k a0 S K) (fun k K=>congrFun (congrFun (congrFun (congrFun aP4 k) a0) S) K) h
theorem e34 {a0:V} {S:St} {Q:V→St→Prop} (h:Ok (fun k K=>m34 (aC prog bD bE k) k a0 S K) Q):Does prog bD bE 34 [a0] S Q:=
 Does.enter (m:=fun C k K=>m34 C k a0 S K) (fun k K=>congrFun (congrFun (congrFun (congrFun aP5 k) a0) S) K) h
theorem e35 {a0:V} {S:St} {Q:V→St→Prop} (h:Ok (fun k K=>m35 (aC prog bD bE k) k a0 S K) Q):Does prog bD bE 35 [a0] S Q:=
 Does.enter (m:=fun C k K=>m35 C k a0 S K) (fun k K=>congrFun (congrFun (congrFun (congrFun aP6 k) a0) S) K) h
theorem e46 {a0:V} {S:St} {Q:V→St→Prop} (h:Ok (fun k K=>m46 (aC prog bD bE k) k a0 S K) Q):Does prog bD bE 46 [a0] S Q:=
 Does.enter (m:=fun C k K=>m46 C k a0 S K) (fun k K=>congrFun (congrFun (congrFun (congrFun aP7 k) a0) S) K) h
theorem e47 {a0:V} {S:St} {Q:V→St→Prop} (h:Ok (fun k K=>m47 (aC prog bD bE k) k a0 S K) Q):Does prog bD bE 47 [a0] S Q:=
 Does.enter (m:=fun C k K=>m47 C k a0 S K) (fun k K=>congrFun (congrFun (congrFun (congrFun aP8 k) a0) S) K) h
theorem e48 {a0:V} {S:St} {Q:V→St→Prop} (h:Ok (fun k K=>m48 (aC prog bD bE k) k a0 S K) Q):Does prog bD bE 48 [a0] S Q:=
 Does.enter (m:=fun C k K=>m48 C k a0 S K) (fun k K=>congrFun (congrFun (congrFun (congrFun aP9 k) a0) S) K) h
theorem e49 {a0:V} {S:St} {Q:V→St→Prop} (h:Ok (fun k K=>m49 (aC prog bD bE k) k a0 S K) Q):Does prog bD bE 49 [a0] S Q:=
 Does.enter (m:=fun C k K=>m49 C k a0 S K) (fun k K=>congrFun (congrFun (congrFun (congrFun aPa k) a0) S) K) h
theorem e50 {a0 a1:V} {S:St} {Q:V→St→Prop} (h:Ok (fun k K=>m50 (aC prog bD bE k) k a0 a1 S K) Q):Does prog bD bE 50 [a0,a1] S Q:=
 Does.enter (m:=fun C k K=>m50 C k a0 a1 S K) (fun k K=>congrFun (congrFun (congrFun (congrFun (congrFun aPb k) a0) a1) S) K) h
theorem e51 {a0:V} {S:St} {Q:V→St→Prop} (h:Ok (fun k K=>m51 (aC prog bD bE k) k a0 S K) Q):Does prog bD bE 51 [a0] S Q:=
 Does.enter (m:=fun C k K=>m51 C k a0 S K) (fun k K=>congrFun (congrFun (congrFun (congrFun aPc k) a0) S) K) h
theorem e52 {a0 a1:V} {S:St} {Q:V→St→Prop} (h:Ok (fun k K=>m52 (aC prog bD bE k) k a0 a1 S K) Q):Does prog bD bE 52 [a0,a1] S Q:=
 Does.enter (m:=fun C k K=>m52 C k a0 a1 S K) (fun k K=>congrFun (congrFun (congrFun (congrFun (congrFun aPd k) a0) a1) S) K) h
theorem e53 {a0 a1:V} {S:St} {Q:V→St→Prop} (h:Ok (fun k K=>m53 (aC prog bD bE k) k a0 a1 S K) Q):Does prog bD bE 53 [a0,a1] S Q:=
 Does.enter (m:=fun C k K=>m53 C k a0 a1 S K) (fun k K=>congrFun (congrFun (congrFun (congrFun (congrFun aPe k) a0) a1) S) K) h
theorem e54 {a0 a1:V} {S:St} {Q:V→St→Prop} (h:Ok (fun k K=>m54 (aC prog bD bE k) k a0 a1 S K) Q):Does prog bD bE 54 [a0,a1] S Q:=
 Does.enter (m:=fun C k K=>m54 C k a0 a1 S K) (fun k K=>congrFun (congrFun (congrFun (congrFun (congrFun aPf k) a0) a1) S) K) h
theorem e55 {a0 a1:V} {S:St} {Q:V→St→Prop} (h:Ok (fun k K=>m55 (aC prog bD bE k) k a0 a1 S K) Q):Does prog bD bE 55 [a0,a1] S Q:=
 Does.enter (m:=fun C k K=>m55 C k a0 a1 S K) (fun k K=>congrFun (congrFun (congrFun (congrFun (congrFun aPg k) a0) a1) S) K) h
theorem e56 {a0 a1:V} {S:St} {Q:V→St→Prop} (h:Ok (fun k K=>m56 (aC prog bD bE k) k a0 a1 S K) Q):Does prog bD bE 56 [a0,a1] S Q:=
 Does.enter (m:=fun C k K=>m56 C k a0 a1 S K) (fun k K=>congrFun (congrFun (congrFun (congrFun (congrFun aPh k) a0) a1) S) K) h
theorem e57 {a0 a1:V} {S:St} {Q:V→St→Prop} (h:Ok (fun k K=>m57 (aC prog bD bE k) k a0 a1 S K) Q):Does prog bD bE 57 [a0,a1] S Q:=
 Does.enter (m:=fun C k K=>m57 C k a0 a1 S K) (fun k K=>congrFun (congrFun (congrFun (congrFun (congrFun aPi k) a0) a1) S) K) h
theorem e58 {a0 a1:V} {S:St} {Q:V→St→Prop} (h:Ok (fun k K=>m58 (aC prog bD bE k) k a0 a1 S K) Q):Does prog bD bE 58 [a0,a1] S Q:=
 Does.enter (m:=fun C k K=>m58 C k a0 a1 S K) (fun k K=>congrFun (congrFun (congrFun (congrFun (congrFun aPj k) a0) a1) S) K) h
theorem e59 {a0 a1:V} {S:St} {Q:V→St→Prop} (h:Ok (fun k K=>m59 (aC prog bD bE k) k a0 a1 S K) Q):Does prog bD bE 59 [a0,a1] S Q:=
 Does.enter (m:=fun C k K=>m59 C k a0 a1 S K) (fun k K=>congrFun (congrFun (congrFun (congrFun (congrFun aPk k) a0) a1) S) K) h
theorem e60 {a0:V} {S:St} {Q:V→St→Prop} (h:Ok (fun k K=>m60 (aC prog bD bE k) k a0 S K) Q):Does prog bD bE 60 [a0] S Q:=
 Does.enter (m:=fun C k K=>m60 C k a0 S K) (fun k K=>congrFun (congrFun (congrFun (congrFun aPl k) a0) S) K) h
theorem e62 {a0 a1:V} {S:St} {Q:V→St→Prop} (h:Ok (fun k K=>m62 (aC prog bD bE k) k a0 a1 S K) Q):Does prog bD bE 62 [a0,a1] S Q:=
 Does.enter (m:=fun C k K=>m62 C k a0 a1 S K) (fun k K=>congrFun (congrFun (congrFun (congrFun (congrFun aPm k) a0) a1) S) K) h
theorem e67 {a0:V} {S:St} {Q:V→St→Prop} (h:Ok (fun k K=>m67 (aC prog bD bE k) k a0 S K) Q):Does prog bD bE 67 [a0] S Q:=
 Does.enter (m:=fun C k K=>m67 C k a0 S K) (fun k K=>congrFun (congrFun (congrFun (congrFun aPn k) a0) S) K) h
theorem e82 {a0:V} {S:St} {Q:V→St→Prop} (h:Ok (fun k K=>m82 (aC prog bD bE k) k a0 S K) Q):Does prog bD bE 82 [a0] S Q:=
 Does.enter (m:=fun C k K=>m82 C k a0 S K) (fun k K=>congrFun (congrFun (congrFun (congrFun aPo k) a0) S) K) h
theorem e83 {a0 a1:V} {S:St} {Q:V→St→Prop} (h:Ok (fun k K=>m83 (aC prog bD bE k) k a0 a1 S K) Q):Does prog bD bE 83 [a0,a1] S Q:=
 Does.enter (m:=fun C k K=>m83 C k a0 a1 S K) (fun k K=>congrFun (congrFun (congrFun (congrFun (congrFun aPp k) a0) a1) S) K) h
theorem e84 {a0 a1:V} {S:St} {Q:V→St→Prop} (h:Ok (fun k K=>m84 (aC prog bD bE k) k a0 a1 S K) Q):Does prog bD bE 84 [a0,a1] S Q:=
 Does.enter (m:=fun C k K=>m84 C k a0 a1 S K) (fun k K=>congrFun (congrFun (congrFun (congrFun (congrFun aPq k) a0) a1) S) K) h
theorem e85 {a0:V} {S:St} {Q:V→St→Prop} (h:Ok (fun k K=>m85 (aC prog bD bE k) k a0 S K) Q):Does prog bD bE 85 [a0] S Q:=
 Does.enter (m:=fun C k K=>m85 C k a0 S K) (fun k K=>congrFun (congrFun (congrFun (congrFun aPr k) a0) S) K) h
theorem e86 {a0 a1:V} {S:St} {Q:V→St→Prop} (h:Ok (fun k K=>m86 (aC prog bD bE k) k a0 a1 S K) Q):Does prog bD bE 86 [a0,a1] S Q:=
 Does.enter (m:=fun C k K=>m86 C k a0 a1 S K) (fun k K=>congrFun (congrFun (congrFun (congrFun (congrFun aPs k) a0) a1) S) K) h
theorem e87 {a0:V} {S:St} {Q:V→St→Prop} (h:Ok (fun k K=>m87 (aC prog bD bE k) k a0 S K) Q):Does prog bD bE 87 [a0] S Q:=
 Does.enter (m:=fun C k K=>m87 C k a0 S K) (fun k K=>congrFun (congrFun (congrFun (congrFun aPt k) a0) S) K) h
theorem e88 {a0 a1:V} {S:St} {Q:V→St→Prop} (h:Ok (fun k K=>m88 (aC prog bD bE k) k a0 a1 S K) Q):Does prog bD bE 88 [a0,a1] S Q:=
 Does.enter (m:=fun C k K=>m88 C k a0 a1 S K) (fun k K=>congrFun (congrFun (congrFun (congrFun (congrFun aPu k) a0) a1) S) K) h
theorem e89 {a0 a1:V} {S:St} {Q:V→St→Prop} (h:Ok (fun k K=>m89 (aC prog bD bE k) k a0 a1 S K) Q):Does prog bD bE 89 [a0,a1] S Q:=
 Does.enter (m:=fun C k K=>m89 C k a0 a1 S K) (fun k K=>congrFun (congrFun (congrFun (congrFun (congrFun aPv k) a0) a1) S) K) h
theorem e90 {a0:V} {S:St} {Q:V→St→Prop} (h:Ok (fun k K=>m90 (aC prog bD bE k) k a0 S K) Q):Does prog bD bE 90 [a0] S Q:=
 Does.enter (m:=fun C k K=>m90 C k a0 S K) (fun k K=>congrFun (congrFun (congrFun (congrFun aPw k) a0) S) K) h
theorem e91 {a0 a1 a2:V} {S:St} {Q:V→St→Prop} (h:Ok (fun k K=>m91 (aC prog bD bE k) k a0 a1 a2 S K) Q):Does prog bD bE 91 [a0,a1,a2] S Q:=
 Does.enter (m:=fun C k K=>m91 C k a0 a1 a2 S K) (fun k K=>congrFun (congrFun (congrFun (congrFun (congrFun (congrFun aPx k) a0) a1) a2) S) K) h
theorem e92 {a0:V} {S:St} {Q:V→St→Prop} (h:Ok (fun k K=>m92 (aC prog bD bE k) k a0 S K) Q):Does prog bD bE 92 [a0] S Q:=
 Does.enter (m:=fun C k K=>m92 C k a0 S K) (fun k K=>congrFun (congrFun (congrFun (congrFun aPy k) a0) S) K) h
theorem e93 {a0:V} {S:St} {Q:V→St→Prop} (h:Ok (fun k K=>m93 (aC prog bD bE k) k a0 S K) Q):Does prog bD bE 93 [a0] S Q:=
 Does.enter (m:=fun C k K=>m93 C k a0 S K) (fun k K=>congrFun (congrFun (congrFun (congrFun aPz k) a0) S) K) h
theorem e95 {a0 a1 a2:V} {S:St} {Q:V→St→Prop} (h:Ok (fun k K=>m95 (aC prog bD bE k) k a0 a1 a2 S K) Q):Does prog bD bE 95 [a0,a1,a2] S Q:=
 Does.enter (m:=fun C k K=>m95 C k a0 a1 a2 S K) (fun k K=>congrFun (congrFun (congrFun (congrFun (congrFun (congrFun aQ0 k) a0) a1) a2) S) K) h
theorem aUp {a0:V} {S:St} {Q:V→St→Prop} (h:Ok (fun k K=>aMb (aC prog bD bE k) k a0 S K) Q):Does prog bD bE 101 [a0] S Q:=
 Does.enter (m:=fun C k K=>aMb C k a0 S K) (fun k K=>congrFun (congrFun (congrFun (congrFun aMc k) a0) S) K) h
theorem aUq {a0:V} {S:St} {Q:V→St→Prop} (h:Ok (fun k K=>aMd (aC prog bD bE k) k a0 S K) Q):Does prog bD bE 102 [a0] S Q:=
 Does.enter (m:=fun C k K=>aMd C k a0 S K) (fun k K=>congrFun (congrFun (congrFun (congrFun aMe k) a0) S) K) h
theorem aUr {a0 a1 a2:V} {S:St} {Q:V→St→Prop} (h:Ok (fun k K=>aMf (aC prog bD bE k) k a0 a1 a2 S K) Q):Does prog bD bE 103 [a0,a1,a2] S Q:=
 Does.enter (m:=fun C k K=>aMf C k a0 a1 a2 S K) (fun k K=>congrFun (congrFun (congrFun (congrFun (congrFun (congrFun aMg k) a0) a1) a2) S) K) h
theorem aUs {a0:V} {S:St} {Q:V→St→Prop} (h:Ok (fun k K=>aMh (aC prog bD bE k) k a0 S K) Q):Does prog bD bE 104 [a0] S Q:=
 Does.enter (m:=fun C k K=>aMh C k a0 S K) (fun k K=>congrFun (congrFun (congrFun (congrFun aMi k) a0) S) K) h
theorem aUt {a0:V} {S:St} {Q:V→St→Prop} (h:Ok (fun k K=>aMj (aC prog bD bE k) k a0 S K) Q):Does prog bD bE 105 [a0] S Q:=
 Does.enter (m:=fun C k K=>aMj C k a0 S K) (fun k K=>congrFun (congrFun (congrFun (congrFun aMk k) a0) S) K) h
theorem aUu {a0:V} {S:St} {Q:V→St→Prop} (h:Ok (fun k K=>aMl (aC prog bD bE k) k a0 S K) Q):Does prog bD bE 106 [a0] S Q:=
 Does.enter (m:=fun C k K=>aMl C k a0 S K) (fun k K=>congrFun (congrFun (congrFun (congrFun aMm k) a0) S) K) h
theorem aUv {a0 a1:V} {S:St} {Q:V→St→Prop} (h:Ok (fun k K=>aMn (aC prog bD bE k) k a0 a1 S K) Q):Does prog bD bE 107 [a0,a1] S Q:=
 Does.enter (m:=fun C k K=>aMn C k a0 a1 S K) (fun k K=>congrFun (congrFun (congrFun (congrFun (congrFun aMo k) a0) a1) S) K) h
end Go.Proofs.Ytbiidlmhadihlaa
end
section
set_option linter.unusedSimpArgs false
set_option linter.unusedVariables false
namespace Go.AM
structure D (b:Nat) (S S':St):Prop where
 next:S.next≤S'.next
 dead:∀ a,a<b→S.heap.get a=none→S'.heap.get a=none
theorem D.refl {b:Nat} (S:St):D b S S:=⟨Nat.le_refl _,fun _ _ h=>h⟩
theorem D.trans {b:Nat} {A B C:St} (h:D b A B) (k:D b B C):D b A C:=⟨Nat.le_trans h.next k.next,fun a ha h1=>k.dead a ha (h.dead a ha h1)⟩
theorem D.put {b:Nat} {S:St} {a:Nat} {x y:Blk} (h:S.heap.get a=some x):D b S ⟨S.next,S.heap.put a y⟩:=by
 refine ⟨Nat.le_refl _,fun c _ hc=>?_⟩
 show (S.heap.put a y).get c=none
 rw [Tr.get_put_neB _ _ _ _ trivial (fun e=>by rw [e,h] at hc;cases hc)];exact hc
def FrB (b:Nat) (fr:Option Nat):Prop:=∀ k,fr=some k→b≤k
theorem D.new {b:Nat} {S S':St} {fr:Option Nat} {x:Blk} {a:Nat} (hb:b≤S.next) (hf:FrB b fr) (h:aY fr S x=.ok (a,S')):D b S S':=by
 cases fr with
 | none=>
  rw [cM] at h
  cases h
  refine ⟨Nat.le_succ _,fun c hc hn=>?_⟩
  show (S.heap.put S.next x).get c=none
  rw [Tr.get_put_neB _ _ _ _ trivial (by omega)];exact hn
 | some k=>
  rw [gP] at h
  cases h
  have:=hf _ rfl
  refine ⟨Nat.le_refl _,fun c hc hn=>?_⟩
  show (S.heap.put a x).get c=none
  rw [Tr.get_put_neB _ _ _ _ trivial (by omega)];exact hn
section
variable {P:Program} {b:Nat} {S S':St} {fr:Option Nat}
theorem aKn {t:TypeId} {p x:V} (h:aV P t p x S=.ok S'):D b S S':=by
 unfold aV at h
 split at h
 ·split at h
  ·cases h
  ·rename_i hg
   split at h
   ·rw [cond_eq_ite] at h
    split at h
    ·cases h;exact D.put (eY hg)
    ·cases h
   ·cases h
 ·cases h
theorem nP {t:TypeId} {s x v:V} (hb:b≤S.next) (hf:FrB b fr) (h:cE P t s x fr S=.ok (v,S')):D b S S':=by
 unfold cE at h
 split at h
 ·cases h
 ·split at h
  ·cases h
  ·rw [cond_eq_ite] at h
   split at h
   ·cases h
   ·split at h
    ·split at h
     ·cases h;exact D.refl S
     ·rw [cond_eq_ite] at h
      split at h
      ·split at h
       ·cases h
       ·rename_i hn;cases h;exact D.new hb hf hn
      ·cases h
    ·split at h
     ·cases h
     ·rename_i hg
      rw [cond_eq_ite] at h
      split at h
      ·cases h;exact D.put (eY hg)
      ·cases h
    ·cases h
theorem aIg {t:TypeId} {s i x v:V} (hb:b≤S.next) (h:kT P t s i x S=.ok (v,S')):D b S S':=by
 have hf:FrB b none:=fun _ h=>by cases h
 unfold kT at h
 split at h
 ·split at h
  ·cases h
  ·rw [cond_eq_ite] at h
   split at h
   ·cases h
   ·split at h
    ·rw [cond_eq_ite] at h
     split at h
     ·exact nP hb hf h
     ·cases h
    ·rw [cond_eq_ite] at h
     split at h
     ·exact nP hb hf h
     ·rw [cond_eq_ite] at h
      split at h
      ·cases h
      ·split at h
       ·cases h
       ·rename_i hg
        rw [cond_eq_ite] at h
        split at h
        ·cases h;exact D.put (eY hg)
        ·cases h
    ·cases h
 ·cases h
theorem aIh {t:TypeId} {s i j v:V} (h:qG P t s i j S=.ok (v,S')):D b S S':=by
 unfold qG at h
 split at h
 ·rw [cond_eq_ite] at h
  split at h
  ·cases h
  ·rw [cond_eq_ite] at h
   split at h
   ·split at h
    ·cases h;exact D.refl S
    ·cases h
   ·split at h
    ·rename_i hg
     rw [cond_eq_ite] at h
     split at h
     ·cases h;exact D.put (eY hg)
     ·cases h
    ·cases h
 ·cases h
theorem aKo {t:TypeId} {x v:V} (h:rZ P t x S=.ok (v,S')):D b S S':=by
 unfold rZ at h
 split at h
 ·cases h;exact D.refl S
 ·rw [cond_eq_ite] at h
  split at h
  ·cases h;exact D.refl S
  ·split at h
   ·rename_i hg
    rw [cond_eq_ite] at h
    split at h
    ·cases h;exact D.put (eY hg)
    ·cases h
   ·cases h
 ·cases h
theorem yR {t:TypeId} {n:Nat} {ps:List (Nat×V)} {v:V} (hb:b≤S.next) (hf:FrB b fr) (h:bS P t n ps fr S=.ok (v,S')):D b S S':=by
 unfold bS at h
 split at h
 ·cases h
 ·split at h
  ·cases h
  ·rw [cond_eq_ite] at h
   split at h
   ·split at h
    ·cases h
    ·split at h
     ·cases h
     ·rename_i hn;cases h;exact D.new hb hf hn
   ·cases h
theorem aBr {t:TypeId} {l c v:V} (hb:b≤S.next) (hf:FrB b fr) (h:cY P t l c fr S=.ok (v,S')):D b S S':=by
 unfold cY at h
 split at h
 ·split at h
  ·cases h
  ·rw [cond_eq_ite] at h
   split at h
   ·split at h
    ·cases h
    ·rename_i hn;cases h;exact D.new hb hf hn
   ·cases h
 ·cases h
theorem aFh {s d : TypeId} {x v : V} (hb : b ≤ S.next) (hf : FrB b fr) (h : bP P s d x fr S = .ok (v, S')) : D b S S' := by
  unfold bP at h
  split at h
  · split at h
    · cases h; exact D.refl S
    · cases h
  · split at h
    · cases h; exact D.refl S
    · split at h
      · split at h
        · split at h
          all_goals first
            | cases h; done
            | (split at h
               · cases h
               · split at h
                 · cases h; exact D.refl S
                 · cases h)
        · cases h
      · cases h
  · split at h
    · rw [cond_eq_ite] at h
      split at h
      · split at h
        · cases h
        · rename_i hn; cases h; exact D.new hb hf hn
      · cases h
    · cases h
  · cases h
theorem aBs {t:TypeId} {m k v:V} (h:fB P t m k v S=.ok S'):D b S S':=by
 unfold fB at h
 split at h
 ·split at h
  ·rename_i hg
   split at h
   ·cases h;exact D.put hg
   ·cases h;exact D.put hg
   ·cases h
  ·cases h
 ·cases h
theorem aMu {r:R V} {v:V} (h:bT S r=.ok (.val v S')):S'=S:=by
 unfold bT at h
 split at h<;>cases h;rfl
theorem aFi {r:R V} (h:bT S r=.ok (.skip S')):False:=by
 unfold bT at h
 split at h<;>cases h
theorem aMv {r:R (V×St)} {v:V} (h:cR r=.ok (.val v S')):r=.ok (v,S'):=by
 unfold cR at h
 split at h<;>cases h;rfl
theorem aFj {r:R (V×St)} (h:cR r=.ok (.skip S')):False:=by
 unfold cR at h
 split at h<;>cases h
def Out.left:Out→Option St
 | .val _ S=>some S
 | .skip S=>some S
 | .call _ _=>none
theorem gS {r:R V} {o:Out} (h:bT S r=.ok o) (hl:o.left=some S'):D b S S':=by
 cases o with
 | val v S1=>cases hl;rw [aMu h];exact D.refl S
 | skip S1=>exact (aFi h).elim
 | call f a=>cases hl
theorem gT {r:R (V×St)} {o:Out} (h:cR r=.ok o) (hl:o.left=some S') (hd:∀ v S1,r=.ok (v,S1)→D b S S1):D b S S':=by
 cases o with
 | val v S1=>cases hl;exact hd _ _ (aMv h)
 | skip S1=>exact (aFj h).elim
 | call f a=>cases hl
theorem tY {g:FuncId} {args:List V} {o:Out} (h:jB P S g args=.ok o) (hl:o.left=some S'):D b S S':=by
 unfold jB at h
 split at h
 ·cases h
 ·split at h
  ·cases h;cases hl
  ·exact gS h hl
theorem yS {B:Builtin} {ts:Array TypeId} {args:List V} {o:Out} (hb:b≤S.next) (hf:FrB b fr) (h:cP P B ts args fr S=.ok o) (hl:o.left=some S'):D b S S':=by
 unfold cP at h
 split at h
 ·split at h
  ·exact gS h hl
  ·cases h
 ·exact gS h hl
 ·exact gS h hl
 ·split at h
  ·split at h
   ·exact gT h hl fun v S1 e=>nP hb hf e
   ·exact gT h hl fun v S1 e=>nP hb hf e
   ·cases h
  ·cases h
 ·split at h
  ·exact gT h hl fun v S1 e=>aKo e
  ·cases h
 ·cases h
theorem tZ {ρ:Operand→Option V} {o:Oper} {u:Out} (hb:b≤S.next) (hf:FrB b fr) (h:aL P ρ o fr S=.ok u) (hl:u.left=some S'):D b S S':=by
 unfold aL at h
 split at h
 all_goals try (cases h;done)
 all_goals try (exact tY h hl)
 all_goals repeat' split at h
 all_goals try (cases h;done)
 all_goals try (exact gS h hl)
 all_goals try (exact tY h hl)
 all_goals try (exact yS hb hf h hl)
 all_goals try (cases h;cases hl;exact D.refl S)
 all_goals try (rename_i hn;cases h;cases hl;exact D.new hb hf hn)
 all_goals try (rename_i hn;cases h;cases hl;exact aKn hn)
 all_goals try (rename_i hn;cases h;cases hl;exact aBs hn)
 all_goals try (exact gT h hl fun v S1 e=>yR hb hf e)
 all_goals try (exact gT h hl fun v S1 e=>aFh hb hf e)
 all_goals try (exact gT h hl fun v S1 e=>aBr hb hf e)
 all_goals simp only [cond_eq_ite] at h
 all_goals repeat' split at h
 all_goals try (cases h;done)
 all_goals try (exact gS h hl)
 all_goals try (cases h;cases hl;exact D.refl S)
 all_goals try (cases h;cases hl;exact D.new hb hf (by assumption))
 all_goals (cases h;cases hl;exact D.put (by assumption))
def kL (C:Call):Prop:=∀ f args S v S',C f args S=.ok (v,S')→∀ b,b≤S.next→D b S S'
theorem aDq {C:Call} (hC:kL C) {n:Nat} {ops:Array Oper} {o:Oper} {e e':cF} (hb:b≤S.next) (hf:FrB b fr) (h:cT P C n ops o fr e S=.ok (e',S')):D b S S':=by
 unfold cT at h
 split at h
 ·cases h
 ·split at h
  ·cases h;exact D.refl S
  ·cases h
 ·split at h
  ·cases h
  ·rename_i hv
   split at h
   ·cases h;exact tZ hb hf hv rfl
   ·cases h
  ·rename_i hv
   split at h
   ·cases h;exact tZ hb hf hv rfl
   ·cases h
  ·split at h
   ·cases h
   ·rename_i hc
    split at h
    ·cases h;exact hC _ _ _ _ _ hc b hb
    ·cases h
theorem aDr {C:Call} (hC:kL C) {n:Nat} {ops:Array Oper}:∀ (l:List Oper) {e e':cF} {S S':St},b≤S.next→gN P C n ops l e S=.ok (e',S')→D b S S'
 | [],e,e',S,S',hb,h=>by cases h;exact D.refl S
 | o::l,e,e',S,S',hb,h=>by
  simp only [gN] at h
  split at h
  ·rename_i hs
   have h1:=aDq hC hb (fun _ h=>by cases h) hs
   exact h1.trans (aDr hC l (Nat.le_trans hb h1.next) h)
  ·cases h
theorem aDs {C:Call} (hC:kL C) {n:Nat} {ops:Array Oper} {base:Nat} (hbb:b≤base):∀ (l:List eK) {recs:List oT} {e e':cF} {S S':St},b≤S.next→gF P C n ops base l recs e S=.ok (e',S')→D b S S'
 | [],recs,e,e',S,S',hb,h=>by cases h;exact D.refl S
 | (i,re)::l,recs,e,e',S,S',hb,h=>by
  simp only [gF] at h
  split at h
  ·cases h
  ·split at h
   ·cases h
   ·rename_i hs
    have h1:=aDq hC hb (fun k hk=>by cases hk;omega) hs
    rw [cond_eq_ite] at h
    split at h
    ·exact h1.trans (aDs hC hbb l (Nat.le_trans hb h1.next) h)
    ·cases h
theorem aQ7 {C:Call} (hC:kL C) {n:Nat} {ops:Array Oper} {l:List eK} {e e':cF} (hb:b≤S.next) (h:cS P C n ops l e S=.ok (e',S')):D b S S':=by
 unfold cS at h
 have:=aDs hC hb l (S:=⟨S.next+ops.size,S.heap⟩) (Nat.le_trans hb (Nat.le_add_right _ _)) h
 exact ⟨Nat.le_trans (Nat.le_add_right _ _) this.next,this.dead⟩
theorem jY {C:Call} (hC:kL C) {pl:Nat→Option (List eK)} {k n:Nat}:∀ (c:Code) {e e':cF} {x:Ex} {S S':St},b≤S.next→cQ P pl C k n c e S=.ok (x,e',S')→D b S S'
 | .skip,e,e',x,S,S',hb,h=>by cases h;exact D.refl S
 | .label _,e,e',x,S,S',hb,h=>by cases h;exact D.refl S
 | .exit id,e,e',x,S,S',hb,h=>by cases h;exact D.refl S
 | .ret,e,e',x,S,S',hb,h=>by cases h;exact D.refl S
 | .region id ops d,e,e',x,S,S',hb,h=>by
  simp only [cQ] at h
  split at h
  ·rename_i hr
   cases h
   cases d with
   | true=>exact aQ7 hC hb hr
   | false=>exact aDr hC _ hb hr
  ·cases h
 | .seq a c,e,e',x,S,S',hb,h=>by
  simp only [cQ] at h
  split at h
  ·rename_i h1
   have d1:=jY hC a hb h1
   exact d1.trans (jY hC c (Nat.le_trans hb d1.next) h)
  ·exact jY hC a hb h
 | .cond q a c,e,e',x,S,S',hb,h=>by
  simp only [cQ] at h
  split at h
  ·exact jY hC a hb h
  ·exact jY hC c hb h
  ·cases h
 | .block id a,e,e',x,S,S',hb,h=>by
  simp only [cQ] at h
  split at h
  ·rename_i h1
   have d1:=jY hC a hb h1
   rw [cond_eq_ite] at h
   split at h
   ·cases h;exact d1
   ·cases h;exact d1
  ·exact jY hC a hb h
 | .loop a,e,e',x,S,S',hb,h=>by
  simp only [cQ] at h
  have:∀ (m:Nat) (e:cF) (S:St),b≤S.next→iter (cQ P pl C k n a) m e S=.ok (x,e',S')→D b S S':=by
   intro m
   induction m with
   | zero=>intro e S _ h;cases h
   | succ m ih=>
    intro e S hb h
    simp only [iter] at h
    split at h
    ·rename_i h1
     have d1:=jY hC a hb h1
     exact d1.trans (ih _ _ (Nat.le_trans hb d1.next) h)
    ·exact jY hC a hb h
  exact this k e S hb h
 | .scope _,e,e',x,S,S',hb,h=>by cases h
 | .rangeFunc ..,e,e',x,S,S',hb,h=>by cases h
 | .goto _,e,e',x,S,S',hb,h=>by cases h
 | .refuse _,e,e',x,S,S',hb,h=>by cases h
def nQ (pl:eD):Prop:=∀ f g,pl f=some (.spec g)→∀ args S v S',g args S=.ok (v,S')→∀ b,b≤S.next→D b S S'
theorem aH8 {pl:eD} (hp:nQ pl):∀ k,kL (fQ P pl k)
 | 0=>fun _ _ _ _ _ h=>by cases h
 | k+1=>by
  intro f args S v S' h b hb
  simp only [fQ] at h
  split at h
  ·cases h
  ·rename_i g hg
   exact hp f g hg args S v S' h b hb
  ·split at h
   ·cases h
   ·split at h
    ·cases h
    ·rw [cond_eq_ite] at h
     split at h
     ·split at h
      ·cases h
      ·cases h
      ·rename_i he
       split at h
       ·cases h;exact jY (aH8 hp k) _ hb he
       ·cases h
     ·cases h
theorem aUw {s:Sp} {args:List V} {v:V} (hb:b≤S.next) (h:s.run P args S=.ok (v,S')):D b S S':=by
 unfold Sp.run at h
 split at h
 ·exact aIg hb h
 ·exact aIh h
 ·rw [cond_eq_ite] at h
  split at h
  ·split at h
   ·rw [cond_eq_ite] at h
    split at h
    ·cases h;exact D.refl S
    ·cases h
   ·cases h;exact D.refl S
   ·cases h
  ·cases h
 ·split at h
  ·rw [cond_eq_ite] at h
   split at h
   ·cases h;exact D.refl S
   ·cases h
  ·rw [cond_eq_ite] at h
   split at h
   ·cases h;exact D.refl S
   ·cases h
  ·cases h
 ·cases h;exact D.refl S
 ·cases h
end
theorem aBt (P:Program) (sp:vG) (t:yZ):nQ (nJ P sp t):=by
 intro f g hg args S v S' h b hb
 unfold nJ at hg
 split at hg
 ·cases hg;exact aUw hb h
 ·split at hg
  ·cases hg
  ·cases hg
end Go.AM
namespace Go.AM
theorem Does.dead {P:Program} {pl:eD} {lv:jR} (hp:nQ pl) {f:FuncId} {args:List V} {S:St} {Q:V→St→Prop} (h:Does P pl lv f args S Q):Does P pl lv f args S fun v S'=>Q v S'∧D S.next S S':=by
 obtain ⟨v,S',N,q,h⟩:=h
 obtain ⟨v1,S1,h1,h2⟩:=pN N f args S (fun v S=>some (v,S)) (v,S') (h N _ (Nat.le_refl _))
 cases h2
 exact ⟨v,S',N,⟨q,aH8 hp N f args S v S' h1 S.next (Nat.le_refl _)⟩,h⟩
end Go.AM
end
section
namespace Go.AM
section
section
variable {P:Program} {pl:eD} {lv:jR}
def Gives (P:Program) (pl:eD) (lv:jR) (f:FuncId) (args:List V) (S:St) (v:V):Prop:=Does P pl lv f args S fun w S'=>w=v∧Ext S S'
theorem Gives.call {f:FuncId} {args:List V} {S:St} {v:V} (h:Gives P pl lv f args S v) {G:Nat→KS→V→St→An} {R:V→St→Prop} (k:∀ S',Ext S S'→Ok (fun k K=>G k K v S') R):
  Ok (fun k K=>aC P pl lv k f args S (fun v S=>G k K v S)) R:=Does.call h fun w S' ⟨e,x⟩=>by subst e;exact k S' x
theorem Gives.get {f:FuncId} {args:List V} {S:St} {v:V} (h:Gives P pl lv f args S v):∃ N S',Ext S S'∧∀ k K,N≤k→aC P pl lv k f args S K=K v S':=by
 obtain ⟨w,S',N,⟨rfl,x⟩,h⟩:=h
 exact ⟨N,S',x,h⟩
end
theorem Sl.one {S:St} {n:Nat} {v:V} {es:List (List V)} (h:Sl S n v es):v.one=true:=by
 rcases h.is with ⟨rfl,_⟩ | rfl | ⟨a,ver,off,elems,rfl,_⟩<;>rfl
theorem Sl.nilv (S:St) (n:Nat):Sl S n .nils []:=⟨.inl ⟨rfl,rfl⟩,fun _ h=>by cases h⟩
theorem xG {S:St} {a n:Nat} {zs cs:List V} (h:S.heap.get a=some (.row 0 n [zs])) (hz:zs.length=n) (hc:cs.length=n) (ho:aH cs=true):
  bG n (.ptr a 0 0 0) (.agg cs) S=.ok ⟨S.next,S.heap.put a (.row 0 n [cs])⟩∧aM (some n) (.ptr a 0 0 0) (⟨S.next,S.heap.put a (.row 0 n [cs])⟩:St)=.ok (.agg cs):=by
 constructor
 ·have:=dE (x:=.agg cs) (j:=0) (m:=n) h hc ho (by omega)
  rw [this]
  simp only [bL,lD zs cs (by rw [hc,hz])]
 ·rw [aDh,dV _ _ hc]
structure But (a:Nat) (S S':St):Prop where
 old:∀ y b,y≠a→S.heap.get y=some b→S'.heap.get y=some b
 next:S.next≤S'.next
 wf:WF S→WF S'
theorem But.of {a:Nat} {S S':St} (x:Ext S S'):But a S S':=⟨fun y b _ h=>x.old y b h,x.next,x.wf⟩
theorem But.trans {a:Nat} {A B C:St} (h:But a A B) (k:But a B C):But a A C:=⟨fun y b hy q=>k.old y b hy (h.old y b hy q),Nat.le_trans h.next k.next,fun w=>k.wf (h.wf w)⟩
theorem But.put {a:Nat} {S:St} (ha:a<S.next) (b:Blk):But a S ⟨S.next,S.heap.put a b⟩:=by
 refine ⟨fun y c hy h=>?_,Nat.le_refl _,fun w y c hc=>?_⟩
 ·show (S.heap.put a b).get y=some c
  rw [Tr.get_put_neB _ _ _ _ trivial hy];exact h
 ·have hc':(S.heap.put a b).get y=some c:=hc
  rw [Tr.get_putB _ _ _ _ trivial] at hc'
  split at hc'
  ·show y<S.next;omega
  ·exact w y c hc'
theorem But.ext {a:Nat} {S0 S S':St} (w:WF S0) (x:Ext S0 S) (ha:S0.next≤a) (h:But a S S'):Ext S0 S':=
 ⟨fun y b hy=>h.old y b (by have:=w y b hy;omega) (x.old y b hy),Nat.le_trans x.next h.next,fun w=>h.wf (x.wf w)⟩
theorem iR {S:St} {n:Nat} {v:V} {es:List (List V)} (h:Sl S n v es):v.cells=[v]:=by
 rcases h.is with ⟨rfl,_⟩ | rfl | ⟨a,ver,off,elems,rfl,_⟩<;>rfl
def aO:V→Option Nat
 | .sl a _ _ _ _=>some a
 | _=>none
theorem sX {S0 S:St} {n:Nat} {v:V} {es:List (List V)} (h:Own S0 S n v es) {y:Nat} (hy:aO v=some y):S0.next≤y∧y<S.next:=by
 rcases h.is with ⟨e1,_⟩ | ⟨a,ver,tl,e1,e2,e3,_⟩
 ·rw [e1] at hy;cases hy
 ·rw [e1] at hy;cases hy;exact ⟨e2,e3⟩
theorem Own.same {S0 S S':St} {n:Nat} {v:V} {es:List (List V)} (h:Own S0 S n v es) (hn:S.next≤S'.next) (hg:∀ a,aO v=some a→S'.heap.get a=S.heap.get a):Own S0 S' n v es:=
 h.other hn fun a ver m hv=>hg a (by rw [hv];rfl)
theorem Own.pushAt {S0 S:St} {n b:Nat} {v:V} {es:List (List V)} (h:Own S0 S n v es) (x:Ext S0 S) (w:WF S0) {u:V} {cs:List (List V)} (hu:bO S u=.ok cs) (hc:∀ c,c∈cs→c.length=n∧aH c=true) (hne:cs≠[])
  {k:Nat} (hk:S0.next≤k) (hk2:k<S.next) (hk3:S.heap.get k=none)
  (h1:(es.length+cs.length)*b≤35184372088832) (h2:es.length+cs.length<eV):∃ v' S',fN n b v u (some k) S=.ok (v',S')∧Ext S0 S'∧S'.next=S.next∧Own S0 S' n v' (es++cs)∧(aO v'=some k∨aO v'=aO v)∧∀ y,y≠k→aO v≠some y→S'.heap.get y=S.heap.get y:=by
 obtain ⟨a1,a2⟩:=eT hc
 have hlen:∀ c,c∈es++cs→c.length=n∧aH c=true:=fun c hm=>(List.mem_append.1 hm).elim (h.len c) (hc c)
 rcases h.is with ⟨rfl,rfl⟩ | ⟨a,ver,tl,rfl,q1,q2,q3⟩
 ·cases cs with
  | nil=>exact absurd rfl hne
  | cons c cs=>
   refine ⟨.sl k 0 n 0 (c::cs).length,⟨S.next,S.heap.put k (.row 0 n (c::cs))⟩,?_,x.trans (Ext.newAt hk3 hk2 _),rfl,⟨.inr ⟨k,0,[],rfl,hk,hk2,?_⟩,hlen⟩,.inl rfl,fun y hy _=>Tr.get_put_neB _ _ _ _ trivial hy⟩
   ·simp only [List.length_nil,Nat.zero_add] at h1 h2
    simp only [fN,hu,a1,a2,and_self,if_true,h1,h2,gP]
   ·rw [List.append_nil];exact Tr.get_put_sameB _ _ _ trivial
 ·have hb:0+es.length≤es.length+tl.length:=by omega
  refine ⟨.sl a (ver+1) n 0 (es++cs).length,⟨S.next,S.heap.put a (.row (ver+1) n (es++cs))⟩,?_,x.set q1 q2 w _,rfl,⟨.inr ⟨a,ver+1,[],rfl,q1,q2,?_⟩,hlen⟩,.inr rfl,fun y _ hy=>Tr.get_put_neB _ _ _ _ trivial (fun e=>hy (by rw [e];rfl))⟩
  ·simp only [fN,hu,a1,a2,and_self,if_true,aR q3,hb,h1,h2,List.drop_zero,List.take_left',List.length_append]
  ·rw [List.append_nil];exact Tr.get_put_sameB _ _ _ trivial
theorem nR {S:St} (w:WF S) (c k:Nat) (hk:S.next≤k):(⟨S.next+c,S.heap⟩:St).heap.get k=none:=by
 cases hq:S.heap.get k with
 | none=>rfl
 | some b=>have:=w k b hq;omega
theorem Sl.but {a ver m n:Nat} {el:List (List V)} {S S':St} {v:V} {es:List (List V)} (h:Sl S n v es) (b:∀ y c,y≠a→S.heap.get y=some c→S'.heap.get y=some c) (hr:S.heap.get a=some (.row ver m el)) (hne:m≠n):Sl S' n v es:=by
 refine ⟨?_,h.len⟩
 rcases h.is with h1 | h1 | ⟨a',ver',off,elems,h1,h2,h3⟩
 ·exact .inl h1
 ·exact .inr (.inl h1)
 ·have h4:=eY h2
  refine .inr (.inr ⟨a',ver',off,elems,h1,aR (b a' _ (fun e=>?_) h4),h3⟩)
  rw [e,hr] at h4
  exact hne (by cases h4;rfl)
theorem Own.but {a ver m n:Nat} {el:List (List V)} {S0 S S':St} {v:V} {es:List (List V)} (h:Own S0 S n v es) (b:∀ y c,y≠a→S.heap.get y=some c→S'.heap.get y=some c) (hn:S.next≤S'.next) (hr:S.heap.get a=some (.row ver m el)) (hne:m≠n):Own S0 S' n v es:=by
 refine ⟨?_,h.len⟩
 rcases h.is with h1 | ⟨a',ver',tl,h1,h2,h3,h4⟩
 ·exact .inl h1
 ·refine .inr ⟨a',ver',tl,h1,h2,Nat.lt_of_lt_of_le h3 hn,b a' _ (fun e=>?_) h4⟩
  rw [e,hr] at h4
  exact hne (by cases h4;rfl)
theorem Own.beq {S0 S:St} {n:Nat} {v:V} {es:List (List V)} (h:Own S0 S n v es):cV v v=true:=by
 rcases h.is with ⟨rfl,_⟩ | ⟨a',ver',tl,rfl,_⟩
 ·rfl
 ·simp [cV]
theorem nb {S:St} (w:WF S) (n:Nat) (cs:List V):∃ S1,aY none S (.row 0 n [cs])=.ok (S.next,S1)∧Ext S S1∧S1.heap.get S.next=some (.row 0 n [cs])∧S1.next=S.next+1:=
 ⟨_,cM ..,Ext.new w _,Tr.get_put_sameB _ _ _ trivial,rfl⟩
theorem vb {S:St} (w:WF S) (n:Nat) (zs:List V) (x:V) (hz:zs.length=n) (hx:x.cells.length=n) (ho:aH x.cells=true):
  ∃ S1 S2,aY none S (.row 0 n [zs])=.ok (S.next,S1)∧bG n (.ptr S.next 0 0 0) x S1=.ok S2∧Ext S S2∧S2.heap.get S.next=some (.row 0 n [x.cells])∧S2.next=S.next+1:=
 ⟨_,_,cM ..,aA4 S n zs x hz hx ho,Ext.var w n zs x.cells,eY (aGz S n zs x.cells),rfl⟩
abbrev Ag:=List V→St→An
inductive Turn (X:Type) where
 | stop (x:X) (S:St)
 | next (vs:List V) (S:St)
def Turn.run {X:Type} (out:Nat→KS→X→St→An) (k:Nat) (K:KS) (aK:Ag):Turn X→An
 | .stop x S=>out k K x S
 | .next vs S=>aK vs S
def OkL {X:Type} (out:Nat→KS→X→St→An) (g:Nat→KS→Ag→An) (Q:Turn X→Prop):Prop:=∃ o N,Q o∧∀ k K aK,N≤k→g k K aK=o.run out k K aK
theorem OkL.stop {X:Type} {out:Nat→KS→X→St→An} {Q:Turn X→Prop} {g:Nat→KS→Ag→An} (x:X) {S:St} (h:Q (.stop x S)) (he:∀ k K aK,g k K aK=out k K x S:=by intros;rfl):OkL out g Q:=⟨_,0,h,fun k K aK _=>he k K aK⟩
theorem OkL.next {X:Type} {out:Nat→KS→X→St→An} {Q:Turn X→Prop} {vs:List V} {S:St} (h:Q (.next vs S)):OkL out (fun _ _ aK=>aK vs S) Q:=⟨_,0,h,fun _ _ _ _=>rfl⟩
theorem OkL.pick {X:Type} {out:Nat→KS→X→St→An} {Q:Turn X→Prop} {b:Bool} {g g':Nat→KS→Ag→An} (h:b=true→OkL out g Q) (h':b=false→OkL out g' Q):OkL out (fun k K aK=>aE (.bool b) (g k K aK) (g' k K aK)) Q:=by
 cases b with
 | true=>exact h rfl
 | false=>exact h' rfl
theorem OkL.pickP {X:Type} {out:Nat→KS→X→St→An} {Q:Turn X→Prop} {p:Prop} [Decidable p] {g g':Nat→KS→Ag→An} (h:p→OkL out g Q) (h':¬ p→OkL out g' Q):OkL out (fun k K aK=>aE (.bool (decide p)) (g k K aK) (g' k K aK)) Q:=
 OkL.pick (fun e=>h (of_decide_eq_true e)) (fun e=>h' (of_decide_eq_false e))
theorem OkL.pickN {X:Type} {out:Nat→KS→X→St→An} {Q:Turn X→Prop} {p:Prop} [Decidable p] {g g':Nat→KS→Ag→An} (h:¬ p→OkL out g Q) (h':p→OkL out g' Q):OkL out (fun k K aK=>aE (.bool (!decide p)) (g k K aK) (g' k K aK)) Q:=
 OkL.pick (fun e=>h (by simpa using e)) (fun e=>h' (by simpa using e))
theorem OkL.call {P:Program} {pl:eD} {lv:jR} {X:Type} {out:Nat→KS→X→St→An} {Q:Turn X→Prop} {f:FuncId} {args:List V} {S:St} {R:V→St→Prop} (h:Does P pl lv f args S R) {G:Nat→KS→Ag→V→St→An} (k:∀ v S,R v S→OkL out (fun k K aK=>G k K aK v S) Q):
  OkL out (fun k K aK=>aC P pl lv k f args S (fun v S=>G k K aK v S)) Q:=by
 obtain ⟨v,S',N,q,h⟩:=h
 obtain ⟨o,M,q2,h2⟩:=k v S' q
 exact ⟨o,max N M,q2,fun k K aK hk=>(h k (fun v S=>G k K aK v S) (by omega)).trans (h2 k K aK (by omega))⟩
theorem Gives.callL {P:Program} {pl:eD} {lv:jR} {X:Type} {out:Nat→KS→X→St→An} {Q:Turn X→Prop} {f:FuncId} {args:List V} {S:St} {v:V} (h:Gives P pl lv f args S v) {G:Nat→KS→Ag→V→St→An} (k:∀ S',Ext S S'→OkL out (fun k K aK=>G k K aK v S') Q):
  OkL out (fun k K aK=>aC P pl lv k f args S (fun v S=>G k K aK v S)) Q:=OkL.call h fun w S' ⟨e,x⟩=>by subst e;exact k S' x
def aKp {σ ρ α X:Type} (step:σ→α→ρ⊕σ) (Inv:Nat→σ→List V→St→Prop) (Post:ρ→X→St→Prop) (i:Nat) (s:σ) (a:α):Turn X→Prop
 | .stop x S=>∃ r,step s a=.inl r∧Post r x S
 | .next vs S=>∃ s',step s a=.inr s'∧Inv (i+1) s' vs S
theorem Ok.loopL {σ ρ α X:Type} {F:Nat→KS→List V→St→(List V→St→An)→An} {out:Nat→KS→X→St→An} (all:List α) {step:σ→α→ρ⊕σ} {fin:σ→ρ} (Inv:Nat→σ→List V→St→Prop) (Post:ρ→X→St→Prop)
  (hstep:∀ i a s vs S,Inv i s vs S→all[i]?=some a→OkL out (fun k K aK=>F k K vs S aK) (aKp step Inv Post i s a))
  (hend:∀ s vs S,Inv all.length s vs S→∃ x,Post (fin s) x S∧∀ k K aK,F k K vs S aK=out k K x S)
  {s:σ} {vs:List V} {S:St} (hI:Inv 0 s vs S) {Q:V→St→Prop} (hout:∀ x S',Post (gC step fin all s) x S'→Ok (fun k K=>out k K x S') Q):Ok (fun k K=>cW k vs S (F k K)) Q:=by
 refine Ok.loop all Inv Post (fun i a s vs S hI hi=>?_) (fun s vs S hI=>?_) hI hout
 ·obtain ⟨o,N,hq,h⟩:=hstep i a s vs S hI hi
  cases o with
  | stop x S'=>
   obtain ⟨r,h1,h2⟩:=hq
   exact ⟨N,.inl ⟨r,x,S',h1,h2,h⟩⟩
  | next vs' S'=>
   obtain ⟨s',h1,h2⟩:=hq
   exact ⟨N,.inr ⟨s',vs',S',h1,h2,h⟩⟩
 ·obtain ⟨x,h1,h2⟩:=hend s vs S hI
  exact ⟨0,x,S,h1,fun k K aK _=>h2 k K aK⟩
theorem OkL.loop {X:Type} {out:Nat→KS→X→St→An} {Q:Turn X→Prop} {σ ρ α Y:Type} {F:Nat→KS→Ag→List V→St→Ag→An} {out2:Nat→KS→Ag→Y→St→An} (all:List α) {step:σ→α→ρ⊕σ} {fin:σ→ρ} (Inv:Nat→σ→List V→St→Prop) (Post:ρ→Y→St→Prop)
  (hstep:∀ i a s vs S,Inv i s vs S→all[i]?=some a→∃ N,(∃ r y S',step s a=.inl r∧Post r y S'∧∀ k K ag aK,N≤k→F k K ag vs S aK=out2 k K ag y S')∨(∃ s' vs' S',step s a=.inr s'∧Inv (i+1) s' vs' S'∧∀ k K ag aK,N≤k→F k K ag vs S aK=aK vs' S'))
  (hend:∀ s vs S,Inv all.length s vs S→∃ N y S',Post (fin s) y S'∧∀ k K ag aK,N≤k→F k K ag vs S aK=out2 k K ag y S')
  {s:σ} {vs:List V} {S:St} (hI:Inv 0 s vs S) (hout:∀ y S',Post (gC step fin all s) y S'→OkL out (fun k K ag=>out2 k K ag y S') Q):OkL out (fun k K ag=>cW k vs S (F k K ag)) Q:=by
 obtain ⟨N,y,S',hp,h⟩:=aA5 (κ:=KS×Ag) (F:=fun k κ=>F k κ.1 κ.2) (out:=fun k κ=>out2 k κ.1 κ.2) all Inv Post
  (fun i a s vs S h1 h2=>by
   obtain ⟨N,h⟩:=hstep i a s vs S h1 h2
   rcases h with ⟨r,y,S',a1,a2,a3⟩ | ⟨s',vs',S',a1,a2,a3⟩
   ·exact ⟨N,.inl ⟨r,y,S',a1,a2,fun k κ aK hk=>a3 k κ.1 κ.2 aK hk⟩⟩
   ·exact ⟨N,.inr ⟨s',vs',S',a1,a2,fun k κ aK hk=>a3 k κ.1 κ.2 aK hk⟩⟩)
  (fun s vs S h1=>by
   obtain ⟨N,y,S',a1,a2⟩:=hend s vs S h1
   exact ⟨N,y,S',a1,fun k κ aK hk=>a2 k κ.1 κ.2 aK hk⟩) all 0 s vs S rfl (Nat.zero_le _) hI
 obtain ⟨o,M,hq,h2⟩:=hout y S' hp
 refine ⟨o,max N (max M (all.length+1)),hq,fun k K ag hk=>?_⟩
 exact (h k k (K,ag) (by omega) (by omega)).trans (h2 k K ag (by omega))
def Grown (n B:Nat) (T T':St):Prop:=Ext T T'∨∃ a ver el,B≤a∧T.heap.get a=some (.row ver n el)∧But a T T'
theorem aDt {S:St} (w:WF S) {n:Nat} {v:V} {es:List (List V)} (h:Sl S n v es):∀ y,aO v=some y→y<S.next:=by
 intro y hy
 rcases h.is with ⟨rfl,_⟩ | rfl | ⟨a,ver,off,elems,rfl,h1,_⟩
 ·cases hy
 ·cases hy
 ·cases hy;exact w _ _ (eY h1)
theorem Sl.keep {S S':St} {n:Nat} {v:V} {es:List (List V)} (h:Sl S n v es) (hg:∀ y c,aO v=some y→S.heap.get y=some c→S'.heap.get y=some c):Sl S' n v es:=by
 refine ⟨?_,h.len⟩
 rcases h.is with h1 | h1 | ⟨a,ver,off,elems,h1,h2,h3⟩
 ·exact .inl h1
 ·exact .inr (.inl h1)
 ·exact .inr (.inr ⟨a,ver,off,elems,h1,aR (hg a _ (by rw [h1];rfl) (eY h2)),h3⟩)
theorem Grown.old {n B:Nat} {T T':St} (g:Grown n B T T') {y:Nat} {c:Blk} (h:T.heap.get y=some c) (hc:y<B∨∀ ver el,c≠.row ver n el):T'.heap.get y=some c:=by
 rcases g with x | ⟨a,ver,el,ha,hr,b⟩
 ·exact x.old _ _ h
 ·refine b.old _ _ (fun e=>?_) h
  subst e
  rcases hc with hc | hc
  ·omega
  ·rw [h] at hr;cases hr;exact hc _ _ rfl
theorem Grown.sl {n B m:Nat} {T T':St} (g:Grown n B T T') {v:V} {es:List (List V)} (h:Sl T m v es) (hm:m≠n):Sl T' m v es:=by
 rcases g with x | ⟨a,ver,el,ha,hr,b⟩
 ·exact h.ext x
 ·exact h.but b.old hr (Ne.symm hm)
theorem Grown.sl2 {n B m:Nat} {T T':St} (g:Grown n B T T') {v:V} {es:List (List V)} (h:Sl T m v es) (hv:∀ y,aO v=some y→y<B):Sl T' m v es:=
 Sl.keep h fun y c hy hc=>g.old hc (.inl (hv y hy))
theorem Own.pushG {S0 S:St} {n b:Nat} {v:V} {es:List (List V)} (h:Own S0 S n v es) (x:Ext S0 S) (w:WF S0) {u:V} {cs:List (List V)} (hu:bO S u=.ok cs) (hc:∀ c,c∈cs→c.length=n∧aH c=true) (hne:cs≠[])
  (h1:(es.length+cs.length)*b≤35184372088832) (h2:es.length+cs.length<eV):∃ v' S',fN n b v u none S=.ok (v',S')∧Ext S0 S'∧Own S0 S' n v' (es++cs)∧(aO v'=some S.next∨aO v'=aO v)∧(∀ y,y<S.next→aO v≠some y→S'.heap.get y=S.heap.get y)∧S.next≤S'.next:=by
 obtain ⟨a1,a2⟩:=eT hc
 have hlen:∀ c,c∈es++cs→c.length=n∧aH c=true:=fun c hm=>(List.mem_append.1 hm).elim (h.len c) (hc c)
 rcases h.is with ⟨rfl,rfl⟩ | ⟨a,ver,tl,rfl,q1,q2,q3⟩
 ·cases cs with
  | nil=>exact absurd rfl hne
  | cons c cs=>
   refine ⟨.sl S.next 0 n 0 (c::cs).length,⟨S.next+1,S.heap.put S.next (.row 0 n (c::cs))⟩,?_,x.trans (Ext.new (x.wf w) _),⟨.inr ⟨S.next,0,[],rfl,x.next,Nat.lt_succ_self _,?_⟩,hlen⟩,.inl rfl,fun y hy _=>Tr.get_put_neB _ _ _ _ trivial (by omega),Nat.le_succ _⟩
   ·simp only [List.length_nil,Nat.zero_add] at h1 h2
    simp only [fN,hu,a1,a2,and_self,if_true,h1,h2,cM]
   ·rw [List.append_nil];exact Tr.get_put_sameB _ _ _ trivial
 ·have hb:0+es.length≤es.length+tl.length:=by omega
  refine ⟨.sl a (ver+1) n 0 (es++cs).length,⟨S.next,S.heap.put a (.row (ver+1) n (es++cs))⟩,?_,x.set q1 q2 w _,⟨.inr ⟨a,ver+1,[],rfl,q1,q2,?_⟩,hlen⟩,.inr rfl,fun y _ hy=>Tr.get_put_neB _ _ _ _ trivial (fun e=>hy (by rw [e];rfl)),Nat.le_refl _⟩
  ·simp only [fN,hu,a1,a2,and_self,if_true,aR q3,hb,h1,h2,List.drop_zero,List.take_left',List.length_append]
  ·rw [List.append_nil];exact Tr.get_put_sameB _ _ _ trivial

theorem aIi {S S1:St} (w:WF S) {n k:Nat} (d:D (S.next+n) (⟨S.next+n,S.heap⟩:St) S1) (h1:S.next≤k) (h2:k<S.next+n):S1.heap.get k=none∧k<S1.next:=
 ⟨d.dead k h2 (nR w n k h1),Nat.lt_of_lt_of_le h2 d.next⟩
def aKq:Nat→List (List V)→List (Nat×V)
 | _,[]=>[]
 | i,c::l=>(i,.agg c)::aKq (i+1) l
theorem aDu (n:Nat) (z:List V):∀ (todo pre:List (List V)),(∀ c,c∈todo→c.length=n∧aH c=true)→yE n (pre++List.replicate todo.length z) (aKq pre.length todo)=.ok (pre++todo)
 | [],pre,_=>by simp [aKq,yE]
 | c::l,pre,h=>by
  obtain ⟨h1,h2⟩:=h c (List.mem_cons_self ..)
  have ih:=aDu n z l (pre++[c]) (fun x hx=>h x (List.mem_cons_of_mem _ hx))
  have e:(pre++List.replicate (l.length+1) z).set pre.length c=(pre++[c])++List.replicate l.length z:=by simp [List.replicate_succ]
  have e2:(pre++[c]).length=pre.length+1:=by simp
  have hb:Nat.blt pre.length (pre++List.replicate (l.length+1) z).length=true:=by simp [Nat.blt_eq]
  have hq:Nat.beq c.length n=true:=by rw [Nat.beq_eq];exact h1
  rw [e2] at ih
  simp only [List.append_assoc,List.singleton_append] at ih
  simp only [aKq,yE,bL,List.length_cons,h2,hb,hq,Bool.and_self,cond_true,e,ih,List.append_assoc,List.singleton_append]
theorem aFk (S:St) (n:Nat) (z:List V) (cs:List (List V)) (hc:∀ c,c∈cs→c.length=n∧aH c=true) (hn:cs.length*n≤16777216):
  cN n z cs.length (aKq 0 cs) none S=.ok (.sl S.next 0 n 0 cs.length,⟨S.next+1,S.heap.put S.next (.row 0 n cs)⟩):=by
 have h:=aDu n z cs [] hc
 simp only [List.nil_append,List.length_nil] at h
 unfold cN
 rw [if_pos hn,h]
 simp only [cM]
theorem Sl.many {S:St} {n a:Nat} {cs:List (List V)} (h:S.heap.get a=some (.row 0 n cs)) (hc:∀ c,c∈cs→c.length=n∧aH c=true):Sl S n (.sl a 0 n 0 cs.length) cs:=
 ⟨.inr (.inr ⟨a,0,0,cs,rfl,aR h,by simp,by simp⟩),hc⟩
end
end Go.AM
end
section
namespace Go.Raft
open Go.AM
structure Entry where
 term:Int
 members:Int
 data:List UInt8
deriving DecidableEq
structure Hard where
 term:Int
 vote:Int
 base:Int
 baseTerm:Int
 members:Int
 snap:List UInt8
 log:List Entry
deriving DecidableEq
structure Letter where
 kind:Int
 from':Int
 to:Int
 term:Int
 index:Int
 at':Int
 commit:Int
 members:Int
 off:Int
 size:Int
 yes:Bool
 data:List UInt8
 entries:List Entry
deriving DecidableEq
def Letter.zero:Letter:=⟨0,0,0,0,0,0,0,0,0,0,false,[],[]⟩
structure Peer where
 next:Int
 mtch:Int
 off:Int
deriving DecidableEq
structure Inst where
 index:Int
 at':Int
 size:Int
 data:List UInt8
deriving DecidableEq
structure Core where
 id:Int
 h:Hard
 role:Int
 leads:Int
 sure:Int
 drawn:Int
 left:Int
 votes:Int
 peers:List Peer
 way:Option Inst
 out:List Letter
deriving DecidableEq
def aS5 (m:Int) (k:Nat):Bool:=decide ((m / 2 ^ k) % 2=1)
def cZ (m id:Int):Bool:=decide (0≤id)&&(decide (id<7)&&aS5 m id.toNat)
def ids:List Int:=[0,1,2,3,4,5,6]
def jK (m:Int):List Int:=ids.filter (cZ m)
def gU (m:Int):Int:=(jK m).length
def uA (m:Int):Bool:=decide (1≤m)&&decide (m≤127)
def aDv (m n:Int):Int:=(ids.map fun i=>if cZ m i=true∧cZ n i=true then (2:Int) ^ i.toNat else 0).sum
def aKr (m n:Int):Int:=(ids.map fun i=>if cZ m i=true∧cZ n i=false∨cZ m i=false∧cZ n i=true then (2:Int) ^ i.toNat else 0).sum
def mV (m yes:Int):Bool:=uA m&&decide (gU m<2*gU (aDv m yes))
def aIj (m n:Int):Bool:=uA m&&(uA n&&decide (gU (aKr m n)=1))
def ofL (base:Int):List Entry→Int×Int→Int×Int
 | [],r=>r
 | x::l,r=>ofL (base+1) l (if x.members=0 then r else (x.members,base+1))
def ofM (h:Hard):Int×Int:=ofL h.base h.log (h.members,h.base)
def mW (x:Entry) (behind term:Int):Bool:=
 decide (1≤x.term)&&(decide (behind≤x.term)&&(decide (x.term≤term)&&(decide (0≤x.members)&&(decide (x.members≤127)&&(decide (x.data.length≤1100)&&(decide (x.members=0)||decide (x.data=[])))))))
def eZ (term:Int):List Entry→Int→Bool
 | [],_=>true
 | x::l,behind=>mW x behind term&&eZ term l x.term
def lR (h:Hard):Bool:=
 decide (0≤h.term)&&(decide (h.term≤1099511627776)&&(decide (-1≤h.vote)&&(decide (h.vote<7)&&(decide (1≤h.members)&&(decide (h.members≤127)&&(decide (0≤h.base)&&(decide (h.base≤1099511627776)&&(decide (0≤h.baseTerm)&&(decide (h.baseTerm≤h.term)&&(decide (h.baseTerm=0↔h.base=0) &&
  (decide (h.log.length≤200)&&(decide ((h.log.length:Int)≤1099511627776 - h.base)&&eZ h.term h.log h.baseTerm))))))))))))
def fX (h:Hard):Bool:=lR h&&(decide (h.snap=[]↔h.base=0)&&decide (h.snap.length≤65536))
def kR (n lo hi:Int):Bool:=decide (lo≤n)&&decide (n≤hi)
def oP (m n:Letter):Bool:=
 decide (m.entries.length=n.entries.length)&&(decide (m.index=n.index)&&(decide (m.at'=n.at')&&(decide (m.commit=n.commit)&&(decide (m.members=n.members)&&(decide (m.off=n.off)&&(decide (m.size=n.size)&&(decide (m.yes=n.yes)&&decide (m.data=n.data))))))))
def mX (m:Letter):Bool:=
 if m.kind=1 then oP m { Letter.zero with index:=m.index,at':=m.at' } else
 if m.kind=2 then oP m { Letter.zero with yes:=m.yes } else
 if m.kind=3 then oP m { Letter.zero with index:=m.index,at':=m.at',entries:=m.entries,commit:=m.commit } else
 if m.kind=4 then oP m { Letter.zero with yes:=m.yes,index:=m.index } else
 if m.kind=5 then oP m { Letter.zero with index:=m.index,at':=m.at',members:=m.members,off:=m.off,size:=m.size,data:=m.data } else
 if m.kind=6 then oP m { Letter.zero with index:=m.index,off:=m.off } else false
def iB (m:Letter):Bool:=
 decide (m.entries.length≤8)&&(decide ((m.entries.length:Int)≤1099511627776 - m.index)&&fX ⟨m.term,-1,m.index,m.at',1,if 0<m.index then [115] else [],m.entries⟩)
def gV (m:Letter):Bool:=
 decide (m.index≠0)&&(decide (m.at'≠0)&&(kR m.members 1 127&&(kR m.size 1 65536&&(kR m.off 0 (m.size - 1)&&(decide (1≤m.data.length)&&(decide (m.data.length≤600)&&decide ((m.data.length:Int)≤m.size - m.off)))))))
def dS (m:Letter):Bool:=
 mX m&&(kR m.from' 0 6&&(kR m.to 0 6&&(decide (m.from'≠m.to)&&(kR m.term 1 1099511627776&&(kR m.index 0 1099511627776&&(kR m.at' 0 m.term&&(kR m.commit 0 1099511627776 &&
  (if m.kind=1 then decide (m.at'=0↔m.index=0) else if m.kind=3 then decide (m.at'=0↔m.index=0)&&iB m else if m.kind=5 then gV m else if m.kind=6 then decide (m.index≠0)&&kR m.off 0 65536 else true))))))))
def cX (cS:Int):Int:=10+(if cS.tmod 11<0 then cS.tmod 11+11 else cS.tmod 11)
def sY (id:Int) (h:Hard) (cS:Int):Option Core:=
 if id<0∨7≤id∨fX h=false then none else
  some ⟨id,h,1,-1,h.base,cX cS,cX cS,0,List.replicate 7 ⟨0,0,0⟩,none,[]⟩
def bZ (h:Hard):Int:=h.base+h.log.length
def termH (h:Hard) (n:Int):Int:=if n=h.base then h.baseTerm else match h.log[(n - h.base - 1).toNat]? with
 | some x=>x.term
 | none=>0
def Core.last (c:Core):Int:=bZ c.h
def Core.term (c:Core) (n:Int):Int:=termH c.h n
def Core.members (c:Core):Int:=(ofM c.h).1
def Core.post (c:Core) (m:Letter):Core:={ c with out:=c.out++[{ m with from':=c.id,term:=c.h.term }] }
def Core.others (c:Core):List Int:=(jK c.members).filter fun f=>!decide (f=c.id)
def Core.peer (c:Core) (f:Int):Peer:=c.peers.getD f.toNat ⟨0,0,0⟩
def Core.setPeer (c:Core) (f:Int) (p:Peer):Core:={ c with peers:=c.peers.set f.toNat p }
def Core.send (c:Core) (f:Int):Core:=
 let p:=c.peer f
 if p.next≤c.h.base then
  c.post { Letter.zero with kind:=5,to:=f,index:=c.h.base,at':=c.h.baseTerm,members:=c.h.members,off:=p.off,size:=c.h.snap.length,data:=(c.h.snap.drop p.off.toNat).take 600 }
 else
  c.post { Letter.zero with kind:=3,to:=f,index:=p.next - 1,at':=c.term (p.next - 1),entries:=(c.h.log.drop (p.next - c.h.base - 1).toNat).take 8,commit:=c.sure }
def Core.spread (c:Core):Core:=if c.role=3 then c.others.foldl Core.send c else c
def Core.rest (c:Core):Core:={ c with role:=1,leads:=-1,left:=c.drawn }
def aBu:List Peer→Nat→Int→Int
 | [],_,_=>0
 | p::l,k,n=>(if n≤p.mtch then (2:Int) ^ k else 0)+aBu l (k+1) n
def mY (c:Core) (m:Int):Nat→Int→Int→Int
 | 0,_,sure=>sure
 | k+1,n,sure=>if n≤sure then sure else mY c m k (n - 1) (if c.term n=c.h.term∧mV m (aBu c.peers 0 n)=true then n else sure)
def Core.look (c:Core):Core:=
 let r:=ofM c.h
 let c1:={ c with sure:=mY c r.1 (c.last - c.sure).toNat c.last c.sure }
 if cZ r.1 c1.id=false∧r.2≤c1.sure then c1.rest else c1
def Core.own (c:Core):Core:=(c.setPeer c.id { c.peer c.id with mtch:=c.last }).look.spread
def Core.lead (c:Core):Core:=
 let c1:={ c with role:=3,leads:=c.id,left:=3,peers:=List.replicate 7 ⟨c.last+1,0,0⟩ }
 let c2:=if c.last<1099511627776∧c.h.log.length<200 then { c1 with h:={ c1.h with log:=c1.h.log++[⟨c1.h.term,0,[]⟩] } } else c1
 c2.own
def Core.stand (c:Core):Core:=
 let c1:={ c with h:={ c.h with term:=c.h.term+1,vote:=c.id },role:=2,leads:=-1,votes:=(2:Int) ^ c.id.toNat }
 if mV c1.members c1.votes=true then c1.lead else
  c1.others.foldl (fun d f=>d.post { Letter.zero with kind:=1,to:=f,index:=d.last,at':=d.term d.last }) c1
def Core.tick (c:Core) (cS:Int):Core:=
 let c1:={ c with left:=c.left - 1 }
 if 0<c1.left then c1 else if c1.role=3 then { c1 with left:=3 }.spread else
  let c2:={ c1 with drawn:=cX cS,left:=cX cS }
  let r:=ofM c2.h
  if c2.h.term<1099511627776∧(cZ r.1 c2.id=true∨c2.sure<r.2) then c2.stand else c2
def Core.passed (c:Core) (m:Letter):Bool:=
 if dS m=false∨m.to≠c.id then true else decide (m.kind=1)&&(decide (c.role=3)||(decide (c.leads≠-1)&&decide (c.drawn - c.left<10)))
def Core.late (c:Core) (m:Letter):Core:=
 if m.kind=1 then c.post { Letter.zero with kind:=2,to:=m.from' } else if m.kind=3∨m.kind=5 then c.post { Letter.zero with kind:=4,to:=m.from',index:=c.last } else c
def Core.asked (c:Core) (m:Letter):Core:=
 let t:=c.term c.last
 let yes:=(decide (c.h.vote=-1)||decide (c.h.vote=m.from'))&&(decide (t<m.at')||(decide (m.at'=t)&&decide (c.last≤m.index)))
 let c1:=if yes=true then { c with h:={ c.h with vote:=m.from' },left:=c.drawn } else c
 c1.post { Letter.zero with kind:=2,to:=m.from',yes:=yes }
def pV (m k:Int):Int:=if cZ m k=true then m else m+(2:Int) ^ k.toNat
def Core.voted (c:Core) (m:Letter):Core:=
 if c.role≠2∨m.yes=false then c else
  let c1:={ c with votes:=pV c.votes m.from' }
  if mV c1.members c1.votes=true then c1.lead else c1
def Core.hear (c:Core) (f:Int):Core:={ c with role:=1,leads:=f,left:=c.drawn }
def iC (c:Core):List Entry→Int→Bool
 | [],_=>false
 | x::l,n=>if c.h.base≤n∧n≤c.sure∧c.term n≠x.term then true else iC c l (n+1)
def eI:List Entry→Int→Hard→Int→Hard×Int
 | [],_,h,to=>(h,to)
 | x::l,n,h,to=>
  if h.base<n∧(bZ h<n∨termH h n≠x.term) then
   (if 200<n - h.base then (h,to) else eI l (n+1) { h with log:=h.log.take (n - h.base - 1).toNat++[x] } n)
  else eI l (n+1) h n
def Core.appended (c:Core) (m:Letter):Core:=
 if c.role=3 then c else if iC c m.entries (m.index+1)=true then c else
  let c1:=c.hear m.from'
  if c1.last<m.index then c1.post { Letter.zero with kind:=4,to:=m.from',index:=c1.last } else
  if c1.h.base≤m.index∧c1.term m.index≠m.at' then c1.post { Letter.zero with kind:=4,to:=m.from',index:=m.index - 1 } else
   let r:=eI m.entries (m.index+1) c1.h m.index
   let c2:={ c1 with h:=r.1,sure:=max c1.sure (min m.commit r.2) }
   c2.post { Letter.zero with kind:=4,to:=m.from',yes:=true,index:=r.2 }
def Core.acked (c:Core) (m:Letter):Core:=
 if c.role≠3∨c.last<m.index then c else
  let p:=c.peer m.from'
  if m.yes=false then (c.setPeer m.from' { p with next:=max (min (p.next - 1) (m.index+1)) (p.mtch+1) }).send m.from' else
  if m.index≤p.mtch then c else
   let c1:=(c.setPeer m.from' ⟨m.index+1,m.index,0⟩).look
   if c1.role=3∧(c1.peer m.from').next≤c1.last then c1.send m.from' else c1
def Core.taken (c:Core) (m:Letter) (snap:List UInt8):Core:=
 let rest:=if m.index≤c.last∧c.term m.index=m.at' then c.h.log.drop (m.index - c.h.base).toNat else []
 { c with h:={ c.h with base:=m.index,baseTerm:=m.at',members:=m.members,snap:=snap,log:=rest },sure:=m.index,way:=none }
def Core.installed (c:Core) (m:Letter):Core:=
 if c.role=3 then c else
  let c1:=c.hear m.from'
  if m.index≤c1.sure then c1.post { Letter.zero with kind:=4,to:=m.from',yes:=true,index:=m.index } else
   let c2:=if m.off=0 then { c1 with way:=some ⟨m.index,m.at',m.size,[]⟩ } else c1
   match c2.way with
   | none=>c2.post { Letter.zero with kind:=6,to:=m.from',index:=m.index }
   | some w=>if w.index≠m.index∨w.at'≠m.at'∨w.size≠m.size then c2.post { Letter.zero with kind:=6,to:=m.from',index:=m.index } else
    let w1:=if m.off=w.data.length then { w with data:=w.data++m.data } else w
    let c3:={ c2 with way:=some w1 }
    if (w1.data.length:Int)<w1.size then c3.post { Letter.zero with kind:=6,to:=m.from',index:=m.index,off:=w1.data.length } else
     (c3.taken m w1.data).post { Letter.zero with kind:=4,to:=m.from',yes:=true,index:=m.index }
def Core.more (c:Core) (m:Letter):Core:=
 let p:=c.peer m.from'
 if c.role≠3∨m.index≠c.h.base∨c.h.base<p.next∨(c.h.snap.length:Int)≤m.off∨m.off=p.off then c else
  (c.setPeer m.from' { p with off:=m.off }).send m.from'
def Core.take (c:Core) (m:Letter):Core:=
 if c.passed m=true then c else
  let c1:=if c.h.term<m.term then { c with h:={ c.h with term:=m.term,vote:=-1 },role:=1,leads:=-1 } else c
  if m.term<c1.h.term then c1.late m else
   if m.kind=1 then c1.asked m else if m.kind=2 then c1.voted m else if m.kind=3 then c1.appended m else if m.kind=4 then c1.acked m else if m.kind=5 then c1.installed m else if m.kind=6 then c1.more m else c1
def Core.propose (c:Core) (data:List (List UInt8)):Core×Int×Bool:=
 if c.role≠3∨data.length=0∨(120:Int) - c.h.log.length<data.length∨(1099511627776:Int) - c.last<data.length then (c,0,false) else
 if data.any (fun d=>decide (1100<d.length))=true then (c,0,false) else
  (({ c with h:={ c.h with log:=c.h.log++data.map fun d=>⟨c.h.term,0,d⟩ } }:Core).own,c.last+1,true)
def Core.change (c:Core) (members:Int):Core×Int×Bool:=
 let r:=ofM c.h
 if c.role≠3∨aIj r.1 members=false∨c.sure<r.2∨c.term c.sure≠c.h.term∨120≤c.h.log.length∨1099511627776≤c.last then (c,0,false) else
  let c1:Core:={ c with h:={ c.h with log:=c.h.log++[⟨c.h.term,members,[]⟩] } }
  let n:=c1.last
  let c2:Core:={ c1 with peers:=(List.range 7).zipWith (fun (k:Nat) p=>if (k:Int)≠c.id∧cZ members (k:Int)=true∧cZ r.1 (k:Int)=false then ⟨n,0,0⟩ else p) c1.peers }
  (c2.own,n,true)
def Core.compact (c:Core) (index:Int) (snap:List UInt8):Core×Int:=
 if index≤c.h.base∨c.sure<index∨snap=[]∨65536<snap.length then (c,1) else
  let k:=(index - c.h.base).toNat
  ({ c with h:={ c.h with base:=index,baseTerm:=c.term index,members:=(ofM { c.h with log:=c.h.log.take k }).1,snap:=snap,log:=c.h.log.drop k },peers:=c.peers.map fun p=>{ p with off:=0 } },0)
structure View where
 role:Int
 leads:Int
 commit:Int
 last:Int
 left:Int
 members:Int
deriving DecidableEq
def Core.view (c:Core):View:=⟨c.role,c.leads,c.sure,c.last,c.left,c.members⟩
structure Hok (h:Hard):Prop where
 t0:0≤h.term
 t1:h.term≤1099511627776
 v0:-1≤h.vote
 v1:h.vote<7
 m0:1≤h.members
 m1:h.members≤127
 b0:0≤h.base
 b1:h.base≤1099511627776
 bt0:0≤h.baseTerm
 bt1:h.baseTerm≤h.term
 btz:h.baseTerm=0↔h.base=0
 ll:h.log.length≤200
 li:(h.log.length:Int)≤1099511627776 - h.base
 fl:eZ h.term h.log h.baseTerm=true
 sz:h.snap=[]↔h.base=0
 sl:h.snap.length≤65536
theorem pW (h:Hard):fX h=true↔Hok h:=by
 simp only [fX,lR,Bool.and_eq_true,decide_eq_true_eq]
 constructor
 ·rintro ⟨⟨a1,a2,a3,a4,a5,a6,a7,a8,a9,a10,a11,a12,a13,a14⟩,a15,a16⟩
  exact ⟨a1,a2,a3,a4,a5,a6,a7,a8,a9,a10,a11,a12,a13,a14,a15,a16⟩
 ·rintro ⟨a1,a2,a3,a4,a5,a6,a7,a8,a9,a10,a11,a12,a13,a14,a15,a16⟩
  exact ⟨⟨a1,a2,a3,a4,a5,a6,a7,a8,a9,a10,a11,a12,a13,a14⟩,a15,a16⟩
structure Eok (x:Entry) (term:Int):Prop where
 t0:1≤x.term
 t1:x.term≤term
 m0:0≤x.members
 m1:x.members≤127
 dl:x.data.length≤1100
 md:x.members=0∨x.data=[]
theorem aA9 (x:Entry) (b t:Int):mW x b t=true↔b≤x.term∧Eok x t:=by
 simp only [mW,Bool.and_eq_true,Bool.or_eq_true,decide_eq_true_eq]
 constructor
 ·rintro ⟨a1,a2,a3,a4,a5,a6,a7⟩;exact ⟨a2,a1,a3,a4,a5,a6,a7⟩
 ·rintro ⟨a2,a1,a3,a4,a5,a6,a7⟩;exact ⟨a1,a2,a3,a4,a5,a6,a7⟩
theorem eJ (t:Int):∀ (l:List Entry) (b:Int),eZ t l b=true↔(∀ x∈l,Eok x t)∧(∀ x∈l,b≤x.term)∧l.Pairwise (fun x y=>x.term≤y.term)
 | [],b=>by simp [eZ]
 | x::l,b=>by
  simp only [eZ,Bool.and_eq_true,aA9,eJ t l,List.mem_cons,forall_eq_or_imp,List.pairwise_cons]
  constructor
  ·rintro ⟨⟨a1,a2⟩,a3,a4,a5⟩
   exact ⟨⟨a2,a3⟩,⟨a1,fun y hy=>Int.le_trans a1 (a4 y hy)⟩,a4,a5⟩
  ·rintro ⟨⟨a2,a3⟩,⟨a1,a6⟩,a4,a5⟩
   exact ⟨⟨a1,a2⟩,a3,a4,a5⟩
theorem aFl {t:Int} {l:List Entry} {b:Int} (h:eZ t l b=true) (k:Nat):eZ t (l.take k) b=true:=by
 rw [eJ] at h ⊢
 exact ⟨fun x hx=>h.1 x (List.mem_of_mem_take hx),fun x hx=>h.2.1 x (List.mem_of_mem_take hx),h.2.2.sublist (List.take_sublist k l)⟩
theorem lH {t t':Int} (ht:t≤t') {l:List Entry} {b:Int} (h:eZ t l b=true):eZ t' l b=true:=by
 rw [eJ] at h ⊢
 exact ⟨fun x hx=>let e:=h.1 x hx;⟨e.t0,Int.le_trans e.t1 ht,e.m0,e.m1,e.dl,e.md⟩,h.2⟩
theorem xH {t:Int} {l:List Entry} {b:Int} (h:eZ t l b=true) {x:Entry} (hx:Eok x t) (hb:b≤x.term) (hl:∀ y∈l,y.term≤x.term):eZ t (l++[x]) b=true:=by
 rw [eJ] at h ⊢
 refine ⟨fun y hy=>?_,fun y hy=>?_,List.pairwise_append.2 ⟨h.2.2,by simp,fun y hy z hz=>by rw [List.mem_singleton.1 hz];exact hl y hy⟩⟩
 ·rcases List.mem_append.1 hy with hy | hy
  ·exact h.1 y hy
  ·rw [List.mem_singleton.1 hy];exact hx
 ·rcases List.mem_append.1 hy with hy | hy
  ·exact h.2.1 y hy
  ·rw [List.mem_singleton.1 hy];exact hb
theorem xI {t:Int} {l:List Entry} {b:Int} (h:eZ t l b=true) (k:Nat) {b':Int} (hb:∀ y∈l.drop k,b'≤y.term):eZ t (l.drop k) b'=true:=by
 rw [eJ] at h ⊢
 exact ⟨fun x hx=>h.1 x (List.mem_of_mem_drop hx),hb,h.2.2.sublist (List.drop_sublist k l)⟩
theorem aFm (h:Hard):termH h h.base=h.baseTerm:=by unfold termH;rw [if_pos rfl]
theorem iX {h:Hard} {n:Int} {x:Entry} (hn:h.base<n) (hx:h.log[(n - h.base - 1).toNat]?=some x):termH h n=x.term:=by
 unfold termH;rw [if_neg (by omega),hx]
theorem rL {h:Hard} {n:Int} (h1:h.base<n) (h2:n≤bZ h):∃ x,h.log[(n - h.base - 1).toNat]?=some x:=by
 unfold bZ at h2
 exact ⟨h.log[(n - h.base - 1).toNat]'(by omega),List.getElem?_eq_getElem (by omega)⟩
theorem aQ8 {h:Hard} (ok:Hok h):∀ y∈h.log,y.term≤h.term:=fun y hy=>(((eJ _ _ _).1 ok.fl).1 y hy).t1
structure Pok (c:Core) (p:Peer):Prop where
 a0:0≤p.mtch
 a1:p.mtch≤c.last
 n0:1≤p.next
 n1:p.next≤c.last+1
 o0:0≤p.off
 o1:p.off<c.h.snap.length∨p.off=0
structure Inv (c:Core):Prop where
 i0:0≤c.id
 i1:c.id<7
 h:Hok c.h
 role:c.role=1∨c.role=2∨c.role=3
 l0:-1≤c.leads
 l1:c.leads≤6
 s0:c.h.base≤c.sure
 s1:c.sure≤c.last
 d0:10≤c.drawn
 d1:c.drawn≤20
 f0:1≤c.left
 f1:c.left≤20
 v0:0≤c.votes
 v1:c.votes≤127
 pl:c.peers.length=7
 pr:c.role=3→∀ p∈c.peers,Pok c p
 tm:c.role≠1→1≤c.h.term
 w:∀ w,c.way=some w→1≤w.size∧w.size≤65536∧(w.data.length:Int)≤w.size
def Core.at (c:Core) (n:Int):Option Entry:=c.h.log[(n - c.h.base - 1).toNat]?
structure Keeps (c d:Core):Prop where
 term:c.h.term≤d.h.term
 vote:d.h.term=c.h.term→c.h.vote≠-1→d.h.vote=c.h.vote
 sure:c.sure≤d.sure
 base:c.h.base≤d.h.base
 logs:∀ n,d.h.base<n→n≤c.sure→c.at n=d.at n
theorem Keeps.refl (c:Core):Keeps c c:=⟨Int.le_refl _,fun _ _=>rfl,Int.le_refl _,Int.le_refl _,fun _ _ _=>rfl⟩
theorem Keeps.trans {a b c:Core} (h:Keeps a b) (k:Keeps b c):Keeps a c:=
 ⟨Int.le_trans h.term k.term,fun e v=>by
  have h1:=h.term
  have h2:=k.term
  have e1:b.h.term=a.h.term:=by omega
  rw [k.vote (by omega) (by rw [h.vote e1 v];exact v),h.vote e1 v],Int.le_trans h.sure k.sure,Int.le_trans h.base k.base,fun n h1 h2=>by
  rw [h.logs n (by have:=k.base;omega) h2,k.logs n h1 (by have:=h.sure;omega)]⟩
theorem Keeps.of_same {c d:Core} (h1:d.h=c.h) (h2:c.sure≤d.sure):Keeps c d:=by
 refine ⟨by rw [h1];exact Int.le_refl _,fun _ _=>by rw [h1],h2,by rw [h1];exact Int.le_refl _,fun n _ _=>?_⟩
 unfold Core.at;rw [h1]
theorem Pok.of {c d:Core} (h1:d.h=c.h) {p:Peer} (h:Pok c p):Pok d p:=by
 refine ⟨h.a0,?_,h.n0,?_,h.o0,?_⟩
 ·unfold Core.last;rw [h1];exact h.a1
 ·unfold Core.last;rw [h1];exact h.n1
 ·rw [h1];exact h.o1
structure Sent (c d:Core):Prop where
 id:d.id=c.id
 h:d.h=c.h
 role:d.role=c.role
 leads:d.leads=c.leads
 sure:d.sure=c.sure
 drawn:d.drawn=c.drawn
 left:d.left=c.left
 votes:d.votes=c.votes
 peers:d.peers=c.peers
 way:d.way=c.way
theorem Sent.refl (c:Core):Sent c c:=⟨rfl,rfl,rfl,rfl,rfl,rfl,rfl,rfl,rfl,rfl⟩
theorem Sent.trans {a b c:Core} (h:Sent a b) (k:Sent b c):Sent a c:=
 ⟨k.id.trans h.id,k.h.trans h.h,k.role.trans h.role,k.leads.trans h.leads,k.sure.trans h.sure,k.drawn.trans h.drawn,k.left.trans h.left,k.votes.trans h.votes,k.peers.trans h.peers,k.way.trans h.way⟩
theorem Sent.post (c:Core) (m:Letter):Sent c (c.post m):=⟨rfl,rfl,rfl,rfl,rfl,rfl,rfl,rfl,rfl,rfl⟩
theorem Sent.send (c:Core) (f:Int):Sent c (c.send f):=by
 unfold Core.send
 simp only
 split<;>exact Sent.post c _
theorem Sent.fold {g:Core→Int→Core} (hg:∀ c f,Sent c (g c f)):∀ (l:List Int) (c:Core),Sent c (l.foldl g c)
 | [],c=>Sent.refl c
 | f::l,c=>(hg c f).trans (Sent.fold hg l _)
theorem Sent.spread (c:Core):Sent c c.spread:=by
 unfold Core.spread
 split
 ·exact Sent.fold Sent.send _ _
 ·exact Sent.refl c
theorem Inv.sent {c d:Core} (h:Inv c) (s:Sent c d):Inv d:=by
 have hl:d.last=c.last:=by unfold Core.last;rw [s.h]
 refine ⟨by rw [s.id];exact h.i0,by rw [s.id];exact h.i1,by rw [s.h];exact h.h,by rw [s.role];exact h.role,by rw [s.leads];exact h.l0,by rw [s.leads];exact h.l1,by rw [s.h,s.sure];exact h.s0,by rw [s.sure,hl];exact h.s1,
  by rw [s.drawn];exact h.d0,by rw [s.drawn];exact h.d1,by rw [s.left];exact h.f0,by rw [s.left];exact h.f1,by rw [s.votes];exact h.v0,by rw [s.votes];exact h.v1,by rw [s.peers];exact h.pl,fun hr p hp=>?_,by rw [s.role,s.h];exact h.tm,by rw [s.way];exact h.w⟩
 rw [s.role] at hr
 rw [s.peers] at hp
 exact (h.pr hr p hp).of s.h
theorem Keeps.sent {c d:Core} (s:Sent c d):Keeps c d:=Keeps.of_same s.h (by rw [s.sure];exact Int.le_refl _)
theorem mZ (c:Core) (m:Int):∀ (k:Nat) (n s:Int),s≤mY c m k n s∧(mY c m k n s≤n∨mY c m k n s=s)
 | 0,n,s=>⟨Int.le_refl _,.inr rfl⟩
 | k+1,n,s=>by
  unfold mY
  split
  ·exact ⟨Int.le_refl _,.inr rfl⟩
  ·rename_i hn
   have hn':s<n:=by omega
   split
   ·obtain ⟨h1,h2⟩:=mZ c m k (n - 1) n
    refine ⟨by omega,.inl ?_⟩
    omega
   ·obtain ⟨h1,h2⟩:=mZ c m k (n - 1) s
    exact ⟨h1,by omega⟩
theorem Inv.look {c:Core} (h:Inv c):Inv c.look∧Keeps c c.look∧c.look.h=c.h∧c.look.peers=c.peers:=by
 obtain ⟨r1,r2⟩:=mZ c (ofM c.h).1 (c.last - c.sure).toNat c.last c.sure
 have h2:=h.s1
 have h3:mY c (ofM c.h).1 (c.last - c.sure).toNat c.last c.sure≤c.last:=by omega
 unfold Core.look
 simp only
 generalize mY c (ofM c.h).1 (c.last - c.sure).toNat c.last c.sure=s at r1 r2 h3
 have h1:Inv { c with sure:=s }:=⟨h.i0,h.i1,h.h,h.role,h.l0,h.l1,Int.le_trans h.s0 r1,h3,h.d0,h.d1,h.f0,h.f1,h.v0,h.v1,h.pl,fun hr p hp=>(h.pr hr p hp).of (by rfl),h.tm,h.w⟩
 split
 ·refine ⟨⟨h.i0,h.i1,h.h,.inl rfl,by show (-1:Int)≤-1;decide,by show (-1:Int)≤6;decide,Int.le_trans h.s0 r1,h3,h.d0,h.d1,by have:=h.d0;show 1≤c.drawn;omega,h.d1,h.v0,h.v1,h.pl,fun hr=>(by cases hr),fun hr=>absurd rfl hr,h.w⟩,Keeps.of_same rfl r1,rfl,rfl⟩
 ·exact ⟨h1,Keeps.of_same rfl r1,rfl,rfl⟩
theorem xJ {c:Core} (h:Inv c) {f:Int} (h0:0≤f) (h1:f<7):c.peer f∈c.peers:=by
 unfold Core.peer
 have:f.toNat<c.peers.length:=by rw [h.pl];omega
 rw [List.getD_eq_getElem?_getD,List.getElem?_eq_getElem this]
 exact List.getElem_mem this
theorem Inv.setPeer {c:Core} (h:Inv c) {f:Int} {p:Peer} (hp:c.role=3→Pok c p):Inv (c.setPeer f p):=by
 refine ⟨h.i0,h.i1,h.h,h.role,h.l0,h.l1,h.s0,h.s1,h.d0,h.d1,h.f0,h.f1,h.v0,h.v1,by show (c.peers.set _ _).length=7;rw [List.length_set];exact h.pl,fun hr q hq=>?_,h.tm,h.w⟩
 rcases List.mem_or_eq_of_mem_set hq with hq | rfl
 ·exact (h.pr hr q hq).of (by rfl)
 ·exact (hp hr).of (by rfl)
theorem Inv.own {c:Core} (h:Inv c) (hr:c.role=3):Inv c.own∧Keeps c c.own:=by
 have hp:=h.pr hr _ (xJ h h.i0 h.i1)
 have hb:=h.h.b0
 have hl0:0≤c.last:=by show 0≤c.h.base+_;omega
 have h1:Inv (c.setPeer c.id { c.peer c.id with mtch:=c.last }):=h.setPeer fun _=>⟨hl0,Int.le_refl _,hp.n0,hp.n1,hp.o0,hp.o1⟩
 obtain ⟨h2,k2,_⟩:=h1.look
 have k1:Keeps c (c.setPeer c.id { c.peer c.id with mtch:=c.last }):=Keeps.of_same rfl (Int.le_refl _)
 exact ⟨h2.sent (Sent.spread _),(k1.trans k2).trans (Keeps.sent (Sent.spread _))⟩
theorem Hok.push {h:Hard} (ok:Hok h) {x:Entry} (hx:Eok x h.term) (ht:x.term=h.term) (h1:h.log.length<200) (h2:bZ h<1099511627776):Hok { h with log:=h.log++[x] }:=by
 have hl:(h.log++[x]).length=h.log.length+1:=by simp
 unfold bZ at h2
 refine ⟨ok.t0,ok.t1,ok.v0,ok.v1,ok.m0,ok.m1,ok.b0,ok.b1,ok.bt0,ok.bt1,ok.btz,by show (h.log++[x]).length≤200;omega,by show (((h.log++[x]).length:Nat):Int)≤1099511627776 - h.base;omega,?_,ok.sz,ok.sl⟩
 exact xH ok.fl hx (by rw [ht];exact ok.bt1) (fun y hy=>by rw [ht];exact aQ8 ok y hy)
theorem Keeps.push {c:Core} {l:List Entry} (hs:c.sure≤c.last) {d:Core} (hd:d.h={ c.h with log:=c.h.log++l }) (h2:d.sure=c.sure):Keeps c d:=by
 refine ⟨by rw [hd];exact Int.le_refl _,fun _ _=>by rw [hd],by rw [h2];exact Int.le_refl _,by rw [hd];exact Int.le_refl _,fun n h3 h4=>?_⟩
 unfold Core.at
 rw [hd] at h3 ⊢
 simp only at h3 ⊢
 rw [List.getElem?_append_left]
 unfold Core.last bZ at hs
 omega
theorem Inv.lead {c:Core} (h:Inv c) (ht:1≤c.h.term):Inv c.lead∧Keeps c c.lead:=by
 have hb:=h.h.b0
 have hl0:0≤c.last:=by show 0≤c.h.base+_;omega
 have rep:∀ d:Core,d.h=c.h∨(∃ x,d.h={ c.h with log:=c.h.log++[x] })→∀ p∈List.replicate 7 (⟨c.last+1,0,0⟩:Peer),Pok d p:=by
  intro d hd p hp
  rw [List.eq_of_mem_replicate hp]
  have hl:c.last≤d.last:=by
   unfold Core.last bZ
   rcases hd with hd | ⟨x,hd⟩
   ·rw [hd];exact Int.le_refl _
   ·rw [hd];simp;omega
  exact ⟨Int.le_refl _,by show 0≤d.last;omega,by show 1≤c.last+1;omega,by show c.last+1≤d.last+1;omega,Int.le_refl _,.inr rfl⟩
 unfold Core.lead
 simp only
 have h1:Inv { c with role:=3,leads:=c.id,left:=3,peers:=List.replicate 7 ⟨c.last+1,0,0⟩ }:=
  ⟨h.i0,h.i1,h.h,.inr (.inr rfl),by have:=h.i0;show -1≤c.id;omega,by have:=h.i1;show c.id≤6;omega,h.s0,h.s1,h.d0,h.d1,by show (1:Int)≤3;decide,by show (3:Int)≤20;decide,h.v0,h.v1,rfl,fun _ p hp=>rep _ (.inl (by rfl)) p hp,fun _=>ht,h.w⟩
 have k1:Keeps c { c with role:=3,leads:=c.id,left:=3,peers:=List.replicate 7 ⟨c.last+1,0,0⟩ }:=Keeps.of_same rfl (Int.le_refl _)
 split
 ·rename_i hc
  have ho:=h.h.push (x:=⟨c.h.term,0,[]⟩) ⟨ht,Int.le_refl _,Int.le_refl _,by show (0:Int)≤127;decide,by show 0≤1100;decide,.inl rfl⟩ rfl hc.2 hc.1
  have hl:bZ { c.h with log:=c.h.log++[⟨c.h.term,0,[]⟩] }=c.last+1:=by unfold Core.last bZ;simp;omega
  have h2:Inv { c with role:=3,leads:=c.id,left:=3,peers:=List.replicate 7 ⟨c.last+1,0,0⟩,h:={ c.h with log:=c.h.log++[⟨c.h.term,0,[]⟩] } }:=
   ⟨h.i0,h.i1,ho,.inr (.inr rfl),by have:=h.i0;show -1≤c.id;omega,by have:=h.i1;show c.id≤6;omega,h.s0,by show c.sure≤bZ _;rw [hl];have:=h.s1;omega,h.d0,h.d1,by show (1:Int)≤3;decide,by show (3:Int)≤20;decide,h.v0,h.v1,rfl,fun _ p hp=>rep _ (.inr ⟨_,by rfl⟩) p hp,fun _=>ht,h.w⟩
  obtain ⟨h3,k3⟩:=h2.own rfl
  exact ⟨h3,(Keeps.push h.s1 (d:={ c with role:=3,leads:=c.id,left:=3,peers:=List.replicate 7 ⟨c.last+1,0,0⟩,h:={ c.h with log:=c.h.log++[⟨c.h.term,0,[]⟩] } }) rfl rfl).trans k3⟩
 ·obtain ⟨h3,k3⟩:=h1.own rfl
  exact ⟨h3,k1.trans k3⟩
theorem sZ {k:Nat} (h:k<7):(1:Int)≤2 ^ k∧(2:Int) ^ k≤64:=by
 rcases k with _ | _ | _ | _ | _ | _ | _ | k
 all_goals first | omega | exact ⟨by decide,by decide⟩
theorem pX (d:Int):10≤cX d∧cX d≤20:=by
 unfold cX
 have:=Int.tmod_eq_emod (a:=d) (b:=11)
 have h1:=Int.emod_nonneg d (b:=11) (by omega)
 have h2:=Int.emod_lt_of_pos d (b:=11) (by omega)
 split at this<;>split<;>omega
theorem Inv.stand {c:Core} (h:Inv c) (ht:c.h.term<1099511627776):Inv c.stand∧Keeps c c.stand:=by
 have hid:c.id.toNat<7:=by have:=h.i0;have:=h.i1;omega
 obtain ⟨p0,p1⟩:=sZ hid
 have ho:Hok { c.h with term:=c.h.term+1,vote:=c.id }:=⟨by have:=h.h.t0;show 0≤c.h.term+1;omega,by show c.h.term+1≤_;omega,by have:=h.i0;show -1≤c.id;omega,h.i1,h.h.m0,h.h.m1,h.h.b0,h.h.b1,h.h.bt0,by have:=h.h.bt1;show c.h.baseTerm≤c.h.term+1;omega,h.h.btz,h.h.ll,h.h.li,lH (by show c.h.term≤c.h.term+1;omega) h.h.fl,h.h.sz,h.h.sl⟩
 have h1:Inv { c with h:={ c.h with term:=c.h.term+1,vote:=c.id },role:=2,leads:=-1,votes:=(2:Int) ^ c.id.toNat }:=
  ⟨h.i0,h.i1,ho,.inr (.inl rfl),by show (-1:Int)≤-1;decide,by show (-1:Int)≤6;decide,h.s0,h.s1,h.d0,h.d1,h.f0,h.f1,by show (0:Int)≤2 ^ _;omega,by show (2:Int) ^ _≤127;omega,h.pl,fun hr=>(by cases hr),fun _=>by have:=h.h.t0;show 1≤c.h.term+1;omega,h.w⟩
 have k1:Keeps c { c with h:={ c.h with term:=c.h.term+1,vote:=c.id },role:=2,leads:=-1,votes:=(2:Int) ^ c.id.toNat }:=
  ⟨by show c.h.term≤c.h.term+1;omega,fun e _=>by have e':c.h.term+1=c.h.term:=e;omega,Int.le_refl _,Int.le_refl _,fun _ _ _=>rfl⟩
 unfold Core.stand
 simp only
 split
 ·obtain ⟨h2,k2⟩:=h1.lead (by have:=h.h.t0;show 1≤c.h.term+1;omega)
  exact ⟨h2,k1.trans k2⟩
 ·have s:=Sent.fold (g:=fun d f=>d.post { Letter.zero with kind:=1,to:=f,index:=d.last,at':=d.term d.last }) (fun c f=>Sent.post c _) (Core.others { c with h:={ c.h with term:=c.h.term+1,vote:=c.id },role:=2,leads:=-1,votes:=(2:Int) ^ c.id.toNat }) { c with h:={ c.h with term:=c.h.term+1,vote:=c.id },role:=2,leads:=-1,votes:=(2:Int) ^ c.id.toNat }
  exact ⟨h1.sent s,k1.trans (Keeps.sent s)⟩
theorem Inv.tick {c:Core} (h:Inv c) (cS:Int):Inv (c.tick cS)∧Keeps c (c.tick cS):=by
 obtain ⟨d0,d1⟩:=pX cS
 unfold Core.tick
 simp only
 split
 ·rename_i hl
  have hl':0<c.left - 1:=hl
  exact ⟨⟨h.i0,h.i1,h.h,h.role,h.l0,h.l1,h.s0,h.s1,h.d0,h.d1,by show 1≤c.left - 1;omega,by have:=h.f1;show c.left - 1≤20;omega,h.v0,h.v1,h.pl,fun hr p hp=>(h.pr hr p hp).of (by rfl),h.tm,h.w⟩,Keeps.of_same rfl (Int.le_refl _)⟩
 ·split
  ·have h1:Inv { c with left:=3 }:=⟨h.i0,h.i1,h.h,h.role,h.l0,h.l1,h.s0,h.s1,h.d0,h.d1,by show (1:Int)≤3;decide,by show (3:Int)≤20;decide,h.v0,h.v1,h.pl,fun hr p hp=>(h.pr hr p hp).of (by rfl),h.tm,h.w⟩
   exact ⟨h1.sent (Sent.spread _),(Keeps.of_same rfl (Int.le_refl _):Keeps c { c with left:=3 }).trans (Keeps.sent (Sent.spread _))⟩
  ·have h1:Inv { c with drawn:=cX cS,left:=cX cS }:=⟨h.i0,h.i1,h.h,h.role,h.l0,h.l1,h.s0,h.s1,d0,d1,by show 1≤cX cS;omega,d1,h.v0,h.v1,h.pl,fun hr p hp=>(h.pr hr p hp).of (by rfl),h.tm,h.w⟩
   have k1:Keeps c { c with drawn:=cX cS,left:=cX cS }:=Keeps.of_same rfl (Int.le_refl _)
   split
   ·rename_i hc
    obtain ⟨h2,k2⟩:=h1.stand hc.1
    exact ⟨h2,k1.trans k2⟩
   ·exact ⟨h1,k1⟩
structure Lok (m:Letter):Prop where
 f0:0≤m.from'
 f1:m.from'≤6
 t0:0≤m.to
 t1:m.to≤6
 ne:m.from'≠m.to
 tm0:1≤m.term
 tm1:m.term≤1099511627776
 i0:0≤m.index
 i1:m.index≤1099511627776
 a0:0≤m.at'
 a1:m.at'≤m.term
 c0:0≤m.commit
 c1:m.commit≤1099511627776
 k3:m.kind=3→(m.at'=0↔m.index=0)∧m.entries.length≤8∧(m.entries.length:Int)≤1099511627776 - m.index∧eZ m.term m.entries m.at'=true
 k5:m.kind=5→m.index≠0∧m.at'≠0∧1≤m.members∧m.members≤127∧1≤m.size∧m.size≤65536∧0≤m.off∧m.off≤m.size - 1∧1≤m.data.length∧m.data.length≤600∧(m.data.length:Int)≤m.size - m.off
 k6:m.kind=6→m.index≠0∧0≤m.off∧m.off≤65536
theorem aAa {m:Letter} (h:dS m=true):Lok m:=by
 simp only [dS,kR,Bool.and_eq_true,decide_eq_true_eq] at h
 obtain ⟨_,⟨a1,a2⟩,⟨b1,b2⟩,c,⟨d1,d2⟩,⟨e1,e2⟩,⟨f1,f2⟩,⟨g1,g2⟩,k⟩:=h
 refine ⟨a1,a2,b1,b2,c,d1,d2,e1,e2,f1,f2,g1,g2,fun hk=>?_,fun hk=>?_,fun hk=>?_⟩
 ·rw [hk] at k
  simp only [if_neg (by decide:¬ (3:Int)=1),if_pos,iB,Bool.and_eq_true,decide_eq_true_eq] at k
  exact ⟨k.1,k.2.1,k.2.2.1,((pW _).1 k.2.2.2).fl⟩
 ·rw [hk] at k
  simp only [if_neg (by decide:¬ (5:Int)=1),if_neg (by decide:¬ (5:Int)=3),if_pos,gV,kR,Bool.and_eq_true,decide_eq_true_eq] at k
  obtain ⟨k1,k2,⟨k3,k4⟩,⟨k5,k6⟩,⟨k7,k8⟩,k9,k10,k11⟩:=k
  exact ⟨k1,k2,k3,k4,k5,k6,k7,k8,k9,k10,k11⟩
 ·rw [hk] at k
  simp only [if_neg (by decide:¬ (6:Int)=1),if_neg (by decide:¬ (6:Int)=3),if_neg (by decide:¬ (6:Int)=5),if_pos,kR,Bool.and_eq_true,decide_eq_true_eq] at k
  exact ⟨k.1,k.2.1,k.2.2⟩
theorem Inv.late {c:Core} (h:Inv c) (m:Letter):Inv (c.late m)∧Keeps c (c.late m):=by
 unfold Core.late
 split
 ·exact ⟨h.sent (Sent.post _ _),Keeps.sent (Sent.post _ _)⟩
 ·split
  ·exact ⟨h.sent (Sent.post _ _),Keeps.sent (Sent.post _ _)⟩
  ·exact ⟨h,Keeps.refl c⟩
theorem Inv.asked {c:Core} (h:Inv c) {m:Letter} (ok:Lok m):Inv (c.asked m)∧Keeps c (c.asked m):=by
 unfold Core.asked
 simp only
 split
 ·rename_i hy
  simp only [Bool.and_eq_true,Bool.or_eq_true,decide_eq_true_eq] at hy
  have ho:Hok { c.h with vote:=m.from' }:=⟨h.h.t0,h.h.t1,by have:=ok.f0;show -1≤m.from';omega,by have:=ok.f1;show m.from'<7;omega,h.h.m0,h.h.m1,h.h.b0,h.h.b1,h.h.bt0,h.h.bt1,h.h.btz,h.h.ll,h.h.li,h.h.fl,h.h.sz,h.h.sl⟩
  have h1:Inv { c with h:={ c.h with vote:=m.from' },left:=c.drawn }:=
   ⟨h.i0,h.i1,ho,h.role,h.l0,h.l1,h.s0,h.s1,h.d0,h.d1,by have:=h.d0;show 1≤c.drawn;omega,h.d1,h.v0,h.v1,h.pl,fun hr p hp=>let q:=h.pr hr p hp;⟨q.a0,q.a1,q.n0,q.n1,q.o0,q.o1⟩,h.tm,h.w⟩
  have k1:Keeps c { c with h:={ c.h with vote:=m.from' },left:=c.drawn }:=⟨Int.le_refl _,fun _ hv=>by
   rcases hy.1 with e | e
   ·exact absurd e hv
   ·exact e.symm,Int.le_refl _,Int.le_refl _,fun _ _ _=>rfl⟩
  exact ⟨h1.sent (Sent.post _ _),k1.trans (Keeps.sent (Sent.post _ _))⟩
 ·exact ⟨h.sent (Sent.post _ _),Keeps.sent (Sent.post _ _)⟩
theorem xK {m k:Int} (h0:0≤m) (h1:m≤127) (k0:0≤k) (k1:k<7):0≤pV m k∧pV m k≤127:=by
 unfold pV
 split
 ·exact ⟨h0,h1⟩
 ·rename_i hb
  have:∀ a:Nat,a<128→∀ b:Nat,b<7→cZ (a:Int) (b:Int)=false→(a:Int)+2 ^ b≤127:=by decide +kernel
  have hm:m=(m.toNat:Int):=by omega
  have hk:k=(k.toNat:Int):=by omega
  have h2:=this m.toNat (by omega) k.toNat (by omega) (by rw [←hm,←hk];simpa using hb)
  obtain ⟨p0,p1⟩:=sZ (k:=k.toNat) (by omega)
  omega
theorem Inv.voted {c:Core} (h:Inv c) {m:Letter} (ok:Lok m):Inv (c.voted m)∧Keeps c (c.voted m):=by
 unfold Core.voted
 split
 ·exact ⟨h,Keeps.refl c⟩
 ·rename_i hc
  have hr:c.role=2:=by
   by_cases e:c.role=2
   ·exact e
   ·exact absurd (.inl e) hc
  obtain ⟨a0,a1⟩:=xK h.v0 h.v1 ok.f0 (by have:=ok.f1;omega)
  have h1:Inv { c with votes:=pV c.votes m.from' }:=⟨h.i0,h.i1,h.h,h.role,h.l0,h.l1,h.s0,h.s1,h.d0,h.d1,h.f0,h.f1,a0,a1,h.pl,fun hr p hp=>(h.pr hr p hp).of (by rfl),h.tm,h.w⟩
  have k1:Keeps c { c with votes:=pV c.votes m.from' }:=Keeps.of_same rfl (Int.le_refl _)
  simp only
  split
  ·obtain ⟨h2,k2⟩:=h1.lead (h.tm (by omega))
   exact ⟨h2,k1.trans k2⟩
  ·exact ⟨h1,k1⟩
theorem Inv.acked {c:Core} (h:Inv c) {m:Letter} (ok:Lok m):Inv (c.acked m)∧Keeps c (c.acked m):=by
 unfold Core.acked
 split
 ·exact ⟨h,Keeps.refl c⟩
 ·rename_i hc
  have hr:c.role=3:=by
   by_cases e:c.role=3
   ·exact e
   ·exact absurd (.inl e) hc
  have hl:m.index≤c.last:=by
   by_cases e:c.last<m.index
   ·exact absurd (.inr e) hc
   ·omega
  have hp:=h.pr hr _ (xJ h ok.f0 (by have:=ok.f1;omega))
  have i0:=ok.i0
  simp only
  split
  ·have h1:Inv (c.setPeer m.from' { c.peer m.from' with next:=max (min ((c.peer m.from').next - 1) (m.index+1)) ((c.peer m.from').mtch+1) }):=h.setPeer fun _=>
    ⟨hp.a0,hp.a1,by have:=hp.a0;show 1≤max _ _;omega,by have:=hp.a1;have:=hp.n1;show max _ _≤c.last+1;omega,hp.o0,hp.o1⟩
   exact ⟨h1.sent (Sent.send _ _),(Keeps.of_same rfl (Int.le_refl _):Keeps c (c.setPeer m.from' { c.peer m.from' with next:=max (min ((c.peer m.from').next - 1) (m.index+1)) ((c.peer m.from').mtch+1) })).trans (Keeps.sent (Sent.send _ _))⟩
  ·split
   ·exact ⟨h,Keeps.refl c⟩
   ·have h1:Inv (c.setPeer m.from' ⟨m.index+1,m.index,0⟩):=h.setPeer fun _=>⟨i0,hl,by show 1≤m.index+1;omega,by show m.index+1≤c.last+1;omega,Int.le_refl _,.inr rfl⟩
    obtain ⟨h2,k2,_⟩:=h1.look
    have k1:Keeps c (c.setPeer m.from' ⟨m.index+1,m.index,0⟩):=Keeps.of_same rfl (Int.le_refl _)
    split
    ·exact ⟨h2.sent (Sent.send _ _),(k1.trans k2).trans (Keeps.sent (Sent.send _ _))⟩
    ·exact ⟨h2,k1.trans k2⟩
theorem Inv.more {c:Core} (h:Inv c) {m:Letter} (ok:Lok m) (hk:m.kind=6):Inv (c.more m)∧Keeps c (c.more m):=by
 unfold Core.more
 simp only
 split
 ·exact ⟨h,Keeps.refl c⟩
 ·rename_i hc
  have hr:c.role=3:=by
   by_cases e:c.role=3
   ·exact e
   ·exact absurd (.inl e) hc
  have ho:m.off<c.h.snap.length:=by
   by_cases e:(c.h.snap.length:Int)≤m.off
   ·exact absurd (.inr (.inr (.inr (.inl e)))) hc
   ·omega
  have hp:=h.pr hr _ (xJ h ok.f0 (by have:=ok.f1;omega))
  have h1:Inv (c.setPeer m.from' { c.peer m.from' with off:=m.off }):=h.setPeer fun _=>⟨hp.a0,hp.a1,hp.n0,hp.n1,(ok.k6 hk).2.1,.inl ho⟩
  exact ⟨h1.sent (Sent.send _ _),(Keeps.of_same rfl (Int.le_refl _):Keeps c (c.setPeer m.from' { c.peer m.from' with off:=m.off })).trans (Keeps.sent (Sent.send _ _))⟩
theorem Inv.hear {c:Core} (h:Inv c) {f:Int} (h0:0≤f) (h1:f≤6):Inv (c.hear f)∧Keeps c (c.hear f):=
 ⟨⟨h.i0,h.i1,h.h,.inl rfl,by show -1≤f;omega,h1,h.s0,h.s1,h.d0,h.d1,by have:=h.d0;show 1≤c.drawn;omega,h.d1,h.v0,h.v1,h.pl,fun hr=>(by cases hr),fun hr=>absurd rfl hr,h.w⟩,Keeps.of_same rfl (Int.le_refl _)⟩
theorem Hok.drop {h:Hard} (ok:Hok h) {n:Int} (h1:h.base<n) (h2:n≤bZ h):∀ y∈h.log.drop (n - h.base).toNat,termH h n≤y.term:=by
 obtain ⟨x,hx⟩:=rL h1 h2
 rw [iX h1 hx]
 intro y hy
 have hp:=((eJ _ _ _).1 ok.fl).2.2
 obtain ⟨i,hi⟩:=List.mem_iff_getElem?.1 hy
 rw [List.getElem?_drop] at hi
 obtain ⟨l1,e1⟩:=List.getElem?_eq_some_iff.1 hx
 obtain ⟨l2,e2⟩:=List.getElem?_eq_some_iff.1 hi
 have:=List.pairwise_iff_getElem.1 hp _ _ l1 l2 (by omega)
 rw [e1,e2] at this
 exact this
theorem Inv.taken {c:Core} (h:Inv c) {m:Letter} (ok:Lok m) (hk:m.kind=5) (ht:m.term=c.h.term) (hs:c.sure<m.index) (hr:c.role=1) {snap:List UInt8} (h1:1≤snap.length) (h2:snap.length≤65536):Inv (c.taken m snap)∧Keeps c (c.taken m snap):=by
 obtain ⟨k1,k2,k3,k4,k5,k6,k7,k8,k9,k10,k11⟩:=ok.k5 hk
 have hs0:=h.s0
 have hb0:=h.h.b0
 have hll:=h.h.ll
 have hli:=h.h.li
 obtain ⟨rest,hrest,r1,r2,r3⟩:∃ rest,rest=(if m.index≤c.last∧c.term m.index=m.at' then c.h.log.drop (m.index - c.h.base).toNat else [])∧rest.length≤200∧(rest.length:Int)≤1099511627776 - m.index∧eZ c.h.term rest m.at'=true:=by
  refine ⟨_,rfl,?_⟩
  split
  ·rename_i hc
   obtain ⟨hc1,hc2⟩:=hc
   have hc1':m.index≤c.h.base+c.h.log.length:=hc1
   refine ⟨by rw [List.length_drop];omega,by rw [List.length_drop];omega,xI h.h.fl _ fun y hy=>?_⟩
   have:=h.h.drop (n:=m.index) (by omega) hc1 y hy
   have hc2':termH c.h m.index=m.at':=hc2
   rw [hc2'] at this;exact this
  ·exact ⟨by simp,by simp only [List.length_nil];have:=ok.i1;omega,rfl⟩
 have hne:snap≠[]:=fun e=>by rw [e] at h1;simp at h1
 have ho:Hok { c.h with base:=m.index,baseTerm:=m.at',members:=m.members,snap:=snap,log:=rest }:=
  ⟨h.h.t0,h.h.t1,h.h.v0,h.h.v1,k3,k4,ok.i0,ok.i1,ok.a0,by have:=ok.a1;show m.at'≤c.h.term;omega,⟨fun e=>absurd e k2,fun e=>absurd e k1⟩,r1,r2,r3,⟨fun e=>absurd e hne,fun e=>absurd e k1⟩,h2⟩
 unfold Core.taken
 simp only
 rw [←hrest]
 refine ⟨⟨h.i0,h.i1,ho,h.role,h.l0,h.l1,Int.le_refl _,by show m.index≤m.index+_;omega,h.d0,h.d1,h.f0,h.f1,h.v0,h.v1,h.pl,fun hr'=>?_,h.tm,fun w hw=>(by cases hw)⟩,⟨Int.le_refl _,fun _ _=>rfl,by show c.sure≤m.index;omega,by show c.h.base≤m.index;omega,fun n h3 h4=>?_⟩⟩
 ·have:c.role=3:=hr'
  omega
 ·have:m.index<n:=h3
  omega
theorem Inv.way {c:Core} (h:Inv c) {w:Inst} (hw:1≤w.size∧w.size≤65536∧(w.data.length:Int)≤w.size):Inv { c with way:=some w }:=
 ⟨h.i0,h.i1,h.h,h.role,h.l0,h.l1,h.s0,h.s1,h.d0,h.d1,h.f0,h.f1,h.v0,h.v1,h.pl,fun hr p hp=>(h.pr hr p hp).of (by rfl),h.tm,fun v hv=>by cases hv;exact hw⟩
theorem Inv.installed {c:Core} (h:Inv c) {m:Letter} (ok:Lok m) (hk:m.kind=5) (ht:m.term=c.h.term):Inv (c.installed m)∧Keeps c (c.installed m):=by
 obtain ⟨k1,k2,k3,k4,k5,k6,k7,k8,k9,k10,k11⟩:=ok.k5 hk
 unfold Core.installed
 split
 ·exact ⟨h,Keeps.refl c⟩
 ·obtain ⟨hh,kh⟩:=h.hear ok.f0 ok.f1
  simp only
  split
  ·exact ⟨hh.sent (Sent.post _ _),kh.trans (Keeps.sent (Sent.post _ _))⟩
  ·rename_i hsu
   have hsu':c.sure<m.index:=by have:¬ m.index≤c.sure:=hsu;omega
   obtain ⟨c2,hc2,i2,q2,q3⟩:∃ c2,c2=(if m.off=0 then { c.hear m.from' with way:=some ⟨m.index,m.at',m.size,[]⟩ } else c.hear m.from')∧Inv c2∧c2.h=c.h∧c2.sure=c.sure∧c2.role=1:=by
    refine ⟨_,rfl,?_⟩
    split
    ·exact ⟨hh.way ⟨k5,k6,by show ((0:Nat):Int)≤m.size;omega⟩,rfl,rfl,rfl⟩
    ·exact ⟨hh,rfl,rfl,rfl⟩
   rw [←hc2]
   have kc2:Keeps c c2:=Keeps.of_same q2 (by rw [q3.1];exact Int.le_refl _)
   split
   ·exact ⟨i2.sent (Sent.post _ _),kc2.trans (Keeps.sent (Sent.post _ _))⟩
   ·rename_i w hw
    obtain ⟨w1,w2,w3⟩:=i2.w w hw
    split
    ·exact ⟨i2.sent (Sent.post _ _),kc2.trans (Keeps.sent (Sent.post _ _))⟩
    ·rename_i hsame
     have hsz:w.size=m.size:=by
      by_cases e:w.size=m.size
      ·exact e
      ·exact absurd (.inr (.inr e)) hsame
     obtain ⟨v,hv,v1,v2,v3⟩:∃ v:Inst,v=(if m.off=w.data.length then { w with data:=w.data++m.data } else w)∧1≤v.size∧v.size≤65536∧(v.data.length:Int)≤v.size:=by
      refine ⟨_,rfl,?_⟩
      split
      ·rename_i e
       refine ⟨w1,w2,?_⟩
       show (((w.data++m.data).length:Nat):Int)≤w.size
       rw [List.length_append,hsz]
       omega
      ·exact ⟨w1,w2,w3⟩
     rw [←hv]
     have i3:=i2.way ⟨v1,v2,v3⟩
     have k3':Keeps c { c2 with way:=some v }:=kc2.trans (Keeps.of_same rfl (Int.le_refl _))
     split
     ·exact ⟨i3.sent (Sent.post _ _),k3'.trans (Keeps.sent (Sent.post _ _))⟩
     ·rename_i hfull
      obtain ⟨i4,k4'⟩:=i3.taken ok hk (by show m.term=c2.h.term;rw [q2];exact ht) (by show c2.sure<m.index;rw [q3.1];exact hsu') q3.2 (snap:=v.data) (by omega) (by omega)
      exact ⟨i4.sent (Sent.post _ _),(k3'.trans k4').trans (Keeps.sent (Sent.post _ _))⟩
theorem oQ {c:Core}:∀ {l:List Entry} {n:Int},iC c l n=false→∀ (i:Nat) (x:Entry),l[i]?=some x→c.h.base≤n+i→n+i≤c.sure→c.term (n+i)=x.term
 | [],n,_,i,x,hx=>by simp at hx
 | y::l,n,h,i,x,hx=>by
  intro h1 h2
  unfold iC at h
  split at h
  ·cases h
  ·rename_i hc
   cases i with
   | zero=>
    simp only [List.getElem?_cons_zero,Option.some.injEq] at hx
    subst hx
    by_cases e:c.term n=y.term
    ·simpa using e
    ·exact absurd ⟨by simpa using h1,by simpa using h2,e⟩ hc
   | succ i=>
    simp only [List.getElem?_cons_succ] at hx
    have:=oQ h i x hx (by push_cast at h1 ⊢;omega) (by push_cast at h2 ⊢;omega)
    rw [show n+((i+1:Nat):Int)=n+1+(i:Int) by push_cast;omega]
    exact this
structure Upto (g h:Hard) (s:Int):Prop where
 base:h.base=g.base
 bt:h.baseTerm=g.baseTerm
 term:h.term=g.term
 vote:h.vote=g.vote
 mem:h.members=g.members
 snap:h.snap=g.snap
 last:s≤bZ h
 same:∀ n,g.base<n→n≤s→h.log[(n - g.base - 1).toNat]?=g.log[(n - g.base - 1).toNat]?
theorem Upto.termH {g h:Hard} {s:Int} (u:Upto g h s) {n:Int} (h2:g.base≤n) (h3:n≤s):termH h n=termH g n:=by
 unfold Go.Raft.termH
 rw [u.base,u.bt]
 by_cases e:n=g.base
 ·rw [if_pos e,if_pos e]
 ·rw [if_neg e,if_neg e,u.same n (by omega) h3]
theorem xL {c:Core} (hc:Inv c) {T:Int} (hT:T=c.h.term):∀ (l:List Entry) (n:Int) (h:Hard) (to b:Int),Hok h→Upto c.h h c.sure→n - 1≤bZ h→to≤bZ h→eZ T l b=true→0≤n - 1→(n - 1)+l.length≤1099511627776→
  (h.base≤n - 1→termH h (n - 1)=b)→(∀ (i:Nat) (x:Entry),l[i]?=some x→c.h.base≤n+i→n+i≤c.sure→c.term (n+i)=x.term)→
  Hok (eI l n h to).1∧Upto c.h (eI l n h to).1 c.sure∧(eI l n h to).2≤bZ (eI l n h to).1
 | [],n,h,to,b,ok,u,h1,h2,_,_,_,_,_=>⟨ok,u,h2⟩
 | x::l,n,h,to,b,ok,u,h1,h2,hf,hn0,hli,hb,ha=>by
  simp only [eZ,Bool.and_eq_true,aA9] at hf
  obtain ⟨⟨hbx,hx⟩,hf⟩:=hf
  simp only [List.length_cons] at hli
  have hs0:=hc.s0
  have hub:=u.base
  have ha0:=ha 0 x rfl
  have ha':∀ (i:Nat) (y:Entry),l[i]?=some y→c.h.base≤n+1+i→n+1+i≤c.sure→c.term (n+1+i)=y.term:=fun i y hy q1 q2=>by
   have:=ha (i+1) y (by simpa using hy) (by push_cast;omega) (by push_cast;omega)
   rw [show n+1+(i:Int)=n+((i+1:Nat):Int) by push_cast;omega]
   exact this
  unfold eI
  split
  ·rename_i hcond
   obtain ⟨c1,c2⟩:=hcond
   split
   ·exact ⟨ok,u,h2⟩
   ·rename_i h200
    have hns:c.sure<n:=by
     by_cases e:n≤c.sure
     ·exfalso
      have e1:=ha0 (by push_cast;omega) (by push_cast;omega)
      have e2:=u.termH (n:=n) (by omega) e
      have e3:c.term n=x.term:=by simpa using e1
      have hlast:=u.last
      rcases c2 with c2 | c2
      ·omega
      ·exact c2 (by rw [e2];exact e3)
     ·omega
    have hlen:((h.log.take (n - h.base - 1).toNat).length:Int)=n - h.base - 1:=by
     rw [List.length_take]
     unfold bZ at h1
     omega
    have hfl:=(eJ _ _ _).1 ok.fl
    have hall:∀ y∈h.log.take (n - h.base - 1).toNat,y.term≤x.term:=by
     intro y hy
     have hb':=hb (by omega)
     obtain ⟨i,hi⟩:=List.mem_iff_getElem?.1 hy
     have hil:=(List.getElem?_eq_some_iff.1 hi).1
     have hi':h.log[i]?=some y:=by
      rw [List.getElem?_take] at hi
      split at hi
      ·exact hi
      ·cases hi
     have hin:(i:Int)<n - h.base - 1:=by omega
     obtain ⟨z,hz⟩:=rL (h:=h) (n:=n - 1) (by omega) (by omega)
     rw [iX (by omega) hz] at hb'
     obtain ⟨l1,e1⟩:=List.getElem?_eq_some_iff.1 hi'
     obtain ⟨l2,e2⟩:=List.getElem?_eq_some_iff.1 hz
     have:y.term≤z.term:=by
      by_cases e:i=(n - 1 - h.base - 1).toNat
      ·subst e;rw [←e1,←e2];exact Int.le_refl _
      ·have:=List.pairwise_iff_getElem.1 hfl.2.2 i _ l1 l2 (by omega)
       rw [e1,e2] at this;exact this
     omega
    have hbt:h.baseTerm≤x.term:=by
     by_cases e:n - 1=h.base
     ·have:=hb (by omega);rw [e,aFm] at this;omega
     ·obtain ⟨z,hz⟩:=rL (h:=h) (n:=n - 1) (by omega) (by omega)
      have hb':=hb (by omega)
      rw [iX (by omega) hz] at hb'
      have:=hfl.2.1 z (List.mem_of_getElem? hz)
      omega
    have hxt:Eok x h.term:=by
     have e:h.term=T:=by rw [hT];exact u.term
     rw [e];exact hx
    have hl1:(h.log.take (n - h.base - 1).toNat++[x]).length=(n - h.base).toNat:=by simp only [List.length_append,List.length_cons,List.length_nil];omega
    have hlast:bZ { h with log:=h.log.take (n - h.base - 1).toNat++[x] }=n:=by
     show h.base+((h.log.take (n - h.base - 1).toNat++[x]).length:Int)=n
     rw [hl1];omega
    have ok':Hok { h with log:=h.log.take (n - h.base - 1).toNat++[x] }:=
     ⟨ok.t0,ok.t1,ok.v0,ok.v1,ok.m0,ok.m1,ok.b0,ok.b1,ok.bt0,ok.bt1,ok.btz,by show (h.log.take _++[x]).length≤200;rw [hl1];omega,by show (((h.log.take _++[x]).length:Nat):Int)≤1099511627776 - h.base;rw [hl1];omega,xH (aFl ok.fl _) hxt hbt hall,ok.sz,ok.sl⟩
    have u':Upto c.h { h with log:=h.log.take (n - h.base - 1).toNat++[x] } c.sure:=by
     refine ⟨u.base,u.bt,u.term,u.vote,u.mem,u.snap,by rw [hlast];omega,fun k k1 k2=>?_⟩
     show (h.log.take (n - h.base - 1).toNat++[x])[_]?=_
     rw [List.getElem?_append_left (by omega),List.getElem?_take,if_pos (by omega)]
     exact u.same k k1 k2
    refine xL hc hT l (n+1) _ n x.term ok' u' (by rw [hlast];omega) (by rw [hlast];exact Int.le_refl _) hf (by omega) (by omega) (fun _=>?_) ha'
    rw [show n+1 - 1=n by omega]
    refine iX (h:={ h with log:=h.log.take (n - h.base - 1).toNat++[x] }) (x:=x) c1 ?_
    show (h.log.take (n - h.base - 1).toNat++[x])[(n - h.base - 1).toNat]?=some x
    rw [List.getElem?_append_right (by omega)]
    rw [show (n - h.base - 1).toNat - (h.log.take (n - h.base - 1).toNat).length=0 by omega]
    rfl
  ·rename_i hcond
   have hle:n≤bZ h:=by
    by_cases e:h.base<n
    ·by_cases e2:bZ h<n
     ·exact absurd ⟨e,.inl e2⟩ hcond
     ·omega
    ·have:h.base≤bZ h:=by unfold bZ;omega
     omega
   refine xL hc hT l (n+1) h n x.term ok u (by omega) hle hf (by omega) (by omega) (fun hbn=>?_) ha'
   rw [show n+1 - 1=n by omega] at hbn ⊢
   by_cases e:h.base<n
   ·by_cases e2:termH h n=x.term
    ·exact e2
    ·exact absurd ⟨e,.inr e2⟩ hcond
   ·have e3:n=h.base:=by omega
    have e4:=ha0 (by push_cast;omega) (by push_cast;omega)
    rw [u.termH (by omega) (by omega)]
    have e5:c.term n=x.term:=by simpa using e4
    exact e5
theorem Inv.appended {c:Core} (h:Inv c) {m:Letter} (ok:Lok m) (hk:m.kind=3) (ht:m.term=c.h.term):Inv (c.appended m)∧Keeps c (c.appended m):=by
 obtain ⟨k1,k2,k3,k4⟩:=ok.k3 hk
 unfold Core.appended
 split
 ·exact ⟨h,Keeps.refl c⟩
 ·split
  ·exact ⟨h,Keeps.refl c⟩
  ·rename_i hag
   have hag':iC c m.entries (m.index+1)=false:=by simpa using hag
   obtain ⟨hh,kh⟩:=h.hear ok.f0 ok.f1
   simp only
   split
   ·exact ⟨hh.sent (Sent.post _ _),kh.trans (Keeps.sent (Sent.post _ _))⟩
   ·rename_i hli
    have hli':m.index≤c.last:=by have:¬ c.last<m.index:=hli;omega
    split
    ·exact ⟨hh.sent (Sent.post _ _),kh.trans (Keeps.sent (Sent.post _ _))⟩
    ·rename_i hat
     have hat':c.h.base≤m.index→termH c.h m.index=m.at':=fun e=>by
      by_cases e2:termH c.h m.index=m.at'
      ·exact e2
      ·exact absurd ⟨e,e2⟩ hat
     have hi0:=ok.i0
     obtain ⟨r1,r2,r3⟩:=xL h ht m.entries (m.index+1) c.h m.index m.at' h.h ⟨rfl,rfl,rfl,rfl,rfl,rfl,h.s1,fun _ _ _=>rfl⟩ (by show m.index+1 - 1≤c.last;omega) hli' k4 (by omega) (by omega)
      (fun e=>by rw [show m.index+1 - 1=m.index by omega] at e ⊢;exact hat' e) (fun (i:Nat) (x:Entry) hx q1 q2=>oQ hag' i x hx q1 q2)
     have hch:(c.hear m.from').h=c.h:=rfl
     rw [hch]
     generalize eI m.entries (m.index+1) c.h m.index=r at r1 r2 r3
     have hsu:=r2.last
     have hs0:=h.s0
     have hmax:max (c.hear m.from').sure (min m.commit r.2)≤bZ r.1:=by show max c.sure _≤_;omega
     have hge:c.sure≤max (c.hear m.from').sure (min m.commit r.2):=by show c.sure≤max c.sure _;omega
     have i2:Inv { c.hear m.from' with h:=r.1,sure:=max (c.hear m.from').sure (min m.commit r.2) }:=
      ⟨h.i0,h.i1,r1,.inl rfl,hh.l0,hh.l1,by show r.1.base≤_;rw [r2.base];exact Int.le_trans hs0 hge,hmax,h.d0,h.d1,hh.f0,hh.f1,h.v0,h.v1,h.pl,fun hr=>(by cases hr),fun hr=>absurd rfl hr,h.w⟩
     have kk:Keeps c { c.hear m.from' with h:=r.1,sure:=max (c.hear m.from').sure (min m.commit r.2) }:=by
      refine ⟨by show c.h.term≤r.1.term;rw [r2.term];exact Int.le_refl _,fun _ _=>r2.vote,hge,by show c.h.base≤r.1.base;rw [r2.base];exact Int.le_refl _,fun n n1 n2=>?_⟩
      have n1':r.1.base<n:=n1
      rw [r2.base] at n1'
      show c.h.log[_]?=r.1.log[(n - r.1.base - 1).toNat]?
      rw [r2.base]
      exact (r2.same n n1' n2).symm
     exact ⟨i2.sent (Sent.post _ _),kk.trans (Keeps.sent (Sent.post _ _))⟩
theorem Inv.take {c:Core} (h:Inv c) (m:Letter):Inv (c.take m)∧Keeps c (c.take m):=by
 unfold Core.take
 split
 ·exact ⟨h,Keeps.refl c⟩
 ·rename_i hp
  have hr:dS m=true:=by
   unfold Core.passed at hp
   cases hq:dS m with
   | true=>rfl
   | false=>rw [if_pos (.inl hq)] at hp;exact absurd rfl hp
  have ok:=aAa hr
  obtain ⟨c1,hc1,i1,k1,q1⟩:∃ c1,c1=(if c.h.term<m.term then { c with h:={ c.h with term:=m.term,vote:=-1 },role:=1,leads:=-1 } else c)∧Inv c1∧Keeps c c1∧(m.term≤c1.h.term):=by
   refine ⟨_,rfl,?_⟩
   split
   ·rename_i hlt
    have ho:Hok { c.h with term:=m.term,vote:=-1 }:=⟨by have:=ok.tm0;show 0≤m.term;omega,ok.tm1,by show (-1:Int)≤-1;decide,by show (-1:Int)<7;decide,h.h.m0,h.h.m1,h.h.b0,h.h.b1,h.h.bt0,by have:=h.h.bt1;show c.h.baseTerm≤m.term;omega,h.h.btz,h.h.ll,h.h.li,lH (by show c.h.term≤m.term;omega) h.h.fl,h.h.sz,h.h.sl⟩
    refine ⟨⟨h.i0,h.i1,ho,.inl rfl,by show (-1:Int)≤-1;decide,by show (-1:Int)≤6;decide,h.s0,h.s1,h.d0,h.d1,h.f0,h.f1,h.v0,h.v1,h.pl,fun hr=>(by cases hr),fun hr=>absurd rfl hr,h.w⟩,⟨by show c.h.term≤m.term;omega,fun e _=>by have e':m.term=c.h.term:=e;omega,Int.le_refl _,Int.le_refl _,fun _ _ _=>rfl⟩,Int.le_refl _⟩
   ·rename_i hlt
    exact ⟨h,Keeps.refl c,by omega⟩
  simp only
  rw [←hc1]
  split
  ·obtain ⟨a,b⟩:=i1.late m;exact ⟨a,k1.trans b⟩
  ·rename_i hlt
   have hte:m.term=c1.h.term:=by omega
   split
   ·obtain ⟨a,b⟩:=i1.asked ok;exact ⟨a,k1.trans b⟩
   ·split
    ·obtain ⟨a,b⟩:=i1.voted ok;exact ⟨a,k1.trans b⟩
    ·split
     ·rename_i hk;obtain ⟨a,b⟩:=i1.appended ok hk hte;exact ⟨a,k1.trans b⟩
     ·split
      ·obtain ⟨a,b⟩:=i1.acked ok;exact ⟨a,k1.trans b⟩
      ·split
       ·rename_i hk;obtain ⟨a,b⟩:=i1.installed ok hk hte;exact ⟨a,k1.trans b⟩
       ·split
        ·rename_i hk;obtain ⟨a,b⟩:=i1.more ok hk;exact ⟨a,k1.trans b⟩
        ·exact ⟨i1,k1⟩
theorem aBv {t:Int} {l r:List Entry} {b:Int} (h:eZ t l b=true) (hr:∀ x∈r,Eok x t∧x.term=t) (hb:b≤t):eZ t (l++r) b=true:=by
 rw [eJ] at h ⊢
 refine ⟨fun y hy=>?_,fun y hy=>?_,List.pairwise_append.2 ⟨h.2.2,?_,fun y hy z hz=>?_⟩⟩
 ·rcases List.mem_append.1 hy with hy | hy
  ·exact h.1 y hy
  ·exact (hr y hy).1
 ·rcases List.mem_append.1 hy with hy | hy
  ·exact h.2.1 y hy
  ·rw [(hr y hy).2];exact hb
 ·rw [List.pairwise_iff_getElem]
  intro i j hi hj _
  rw [(hr _ (List.getElem_mem hi)).2,(hr _ (List.getElem_mem hj)).2]
  exact Int.le_refl _
 ·rw [(hr z hz).2];exact (h.1 y hy).t1
theorem Hok.pushes {h:Hard} (ok:Hok h) {r:List Entry} (hr:∀ x∈r,Eok x h.term∧x.term=h.term) (h1:h.log.length+r.length≤200) (h2:bZ h+r.length≤1099511627776):Hok { h with log:=h.log++r }:=by
 have hl:(h.log++r).length=h.log.length+r.length:=List.length_append
 unfold bZ at h2
 exact ⟨ok.t0,ok.t1,ok.v0,ok.v1,ok.m0,ok.m1,ok.b0,ok.b1,ok.bt0,ok.bt1,ok.btz,by show (h.log++r).length≤200;omega,by show (((h.log++r).length:Nat):Int)≤1099511627776 - h.base;omega,aBv ok.fl hr ok.bt1,ok.sz,ok.sl⟩
theorem Pok.grow {c d:Core} {r:List Entry} (hd:d.h={ c.h with log:=c.h.log++r }) {p:Peer} (h:Pok c p):Pok d p:=by
 have hl:c.last≤d.last:=by
  unfold Core.last bZ
  rw [hd]
  simp only [List.length_append]
  omega
 exact ⟨h.a0,Int.le_trans h.a1 hl,h.n0,by have:=h.n1;omega,h.o0,by rw [hd];exact h.o1⟩
theorem Inv.pushes {c:Core} (h:Inv c) {r:List Entry} (hr:∀ x∈r,Eok x c.h.term∧x.term=c.h.term) (h1:c.h.log.length+r.length≤200) (h2:c.last+r.length≤1099511627776):Inv { c with h:={ c.h with log:=c.h.log++r } }∧Keeps c { c with h:={ c.h with log:=c.h.log++r } }:=by
 have ho:=h.h.pushes hr h1 h2
 have hl:c.last≤bZ { c.h with log:=c.h.log++r }:=by
  unfold Core.last bZ
  simp only [List.length_append]
  omega
 refine ⟨⟨h.i0,h.i1,ho,h.role,h.l0,h.l1,h.s0,Int.le_trans h.s1 hl,h.d0,h.d1,h.f0,h.f1,h.v0,h.v1,h.pl,fun hr' p hp=>(h.pr hr' p hp).grow rfl,h.tm,h.w⟩,Keeps.push h.s1 rfl rfl⟩
theorem Inv.propose {c:Core} (h:Inv c) (data:List (List UInt8)):Inv (c.propose data).1∧Keeps c (c.propose data).1:=by
 unfold Core.propose
 split
 ·exact ⟨h,Keeps.refl c⟩
 ·rename_i hc
  split
  ·exact ⟨h,Keeps.refl c⟩
  ·rename_i hd
   have hr:c.role=3:=by
    by_cases e:c.role=3
    ·exact e
    ·exact absurd (.inl e) hc
   have h120:¬ (120:Int) - c.h.log.length<data.length:=fun e=>hc (.inr (.inr (.inl e)))
   have hix:¬ (1099511627776:Int) - c.last<data.length:=fun e=>hc (.inr (.inr (.inr e)))
   have hl:(data.map fun d=>(⟨c.h.term,0,d⟩:Entry)).length=data.length:=List.length_map ..
   have ht:=h.tm (by omega)
   obtain ⟨h1,k1⟩:=h.pushes (r:=data.map fun d=>⟨c.h.term,0,d⟩) (fun x hx=>by
    obtain ⟨d,hd',rfl⟩:=List.mem_map.1 hx
    have:¬ 1100<d.length:=fun e=>hd (List.any_eq_true.2 ⟨d,hd',decide_eq_true e⟩)
    exact ⟨⟨ht,Int.le_refl _,Int.le_refl _,by show (0:Int)≤127;decide,by show d.length≤1100;omega,.inl rfl⟩,rfl⟩) (by rw [hl];omega) (by rw [hl];omega)
   obtain ⟨h2,k2⟩:=h1.own hr
   exact ⟨h2,k1.trans k2⟩
theorem Inv.change {c:Core} (h:Inv c) (members:Int):Inv (c.change members).1∧Keeps c (c.change members).1:=by
 unfold Core.change
 simp only
 split
 ·exact ⟨h,Keeps.refl c⟩
 ·rename_i hc
  have hr:c.role=3:=by
   by_cases e:c.role=3
   ·exact e
   ·exact absurd (.inl e) hc
  have hm:aIj (ofM c.h).1 members=true:=by
   cases e:aIj (ofM c.h).1 members with
   | true=>rfl
   | false=>exact absurd (.inr (.inl e)) hc
  have h120:¬ 120≤c.h.log.length:=fun e=>hc (.inr (.inr (.inr (.inr (.inl e)))))
  have hix:¬ 1099511627776≤c.last:=fun e=>hc (.inr (.inr (.inr (.inr (.inr e)))))
  simp only [aIj,uA,Bool.and_eq_true,decide_eq_true_eq] at hm
  have ht:=h.tm (by omega)
  obtain ⟨h1,k1⟩:=h.pushes (r:=[⟨c.h.term,members,[]⟩]) (fun x hx=>by
   rw [List.mem_singleton.1 hx]
   exact ⟨⟨ht,Int.le_refl _,by show 0≤members;omega,by show members≤127;omega,by show 0≤1100;decide,.inr rfl⟩,rfl⟩) (by simp;omega) (by simp;omega)
  have hb:=h1.h.b0
  generalize hc1:({ c with h:={ c.h with log:=c.h.log++[⟨c.h.term,members,[]⟩] } }:Core)=c1 at h1 k1
  have hr1:c1.role=3:=by rw [←hc1];exact hr
  have hl0:1≤c1.last:=by
   rw [←hc1];show 1≤c.h.base+((c.h.log++[_]).length:Int)
   have:=h.h.b0
   simp;omega
  have h2:Inv { c1 with peers:=(List.range 7).zipWith (fun (k:Nat) p=>if (k:Int)≠c.id∧cZ members (k:Int)=true∧cZ (ofM c.h).1 (k:Int)=false then ⟨c1.last,0,0⟩ else p) c1.peers }:=by
   refine ⟨h1.i0,h1.i1,h1.h,h1.role,h1.l0,h1.l1,h1.s0,h1.s1,h1.d0,h1.d1,h1.f0,h1.f1,h1.v0,h1.v1,by show (List.zipWith _ _ _).length=7;rw [List.length_zipWith,h1.pl];rfl,fun hr' p hp=>?_,h1.tm,h1.w⟩
   obtain ⟨i,hi⟩:=List.mem_iff_getElem?.1 hp
   have hi':((List.range 7).zipWith (fun (k:Nat) p=>if (k:Int)≠c.id∧cZ members (k:Int)=true∧cZ (ofM c.h).1 (k:Int)=false then (⟨c1.last,0,0⟩:Peer) else p) c1.peers)[i]?=some p:=hi
   rw [List.getElem?_zipWith] at hi'
   split at hi'
   ·rename_i a b e1 e2
    cases hi'
    split
    ·exact ⟨Int.le_refl _,by show 0≤c1.last;omega,by show 1≤c1.last;omega,by show c1.last≤c1.last+1;omega,Int.le_refl _,.inr rfl⟩
    ·exact (h1.pr hr1 b (List.mem_of_getElem? e2)).of (by rfl)
   ·cases hi'
  obtain ⟨h3,k3⟩:=h2.own hr1
  have kk:=(k1.trans (Keeps.of_same (d:={ c1 with peers:=(List.range 7).zipWith (fun (k:Nat) p=>if (k:Int)≠c.id∧cZ members (k:Int)=true∧cZ (ofM c.h).1 (k:Int)=false then ⟨c1.last,0,0⟩ else p) c1.peers }) rfl (Int.le_refl _))).trans k3
  subst hc1
  exact ⟨h3,kk⟩
theorem nA:∀ (l:List Entry) (b:Int) (r:Int×Int),(∀ x∈l,0≤x.members∧x.members≤127)→1≤r.1∧r.1≤127→1≤(ofL b l r).1∧(ofL b l r).1≤127
 | [],b,r,_,h=>h
 | x::l,b,r,hx,h=>by
  unfold ofL
  refine nA l _ _ (fun y hy=>hx y (List.mem_cons_of_mem _ hy)) ?_
  split
  ·exact h
  ·rename_i e
   have:=hx x (List.mem_cons_self ..)
   exact ⟨by show 1≤x.members;omega,this.2⟩
theorem Inv.compact {c:Core} (h:Inv c) (index:Int) (snap:List UInt8):Inv (c.compact index snap).1∧Keeps c (c.compact index snap).1:=by
 unfold Core.compact
 split
 ·exact ⟨h,Keeps.refl c⟩
 ·rename_i hc
  have c1:c.h.base<index:=by
   by_cases e:index≤c.h.base
   ·exact absurd (.inl e) hc
   ·omega
  have c2:index≤c.sure:=by
   by_cases e:c.sure<index
   ·exact absurd (.inr (.inl e)) hc
   ·omega
  have c3:snap≠[]:=fun e=>hc (.inr (.inr (.inl e)))
  have c4:¬ 65536<snap.length:=fun e=>hc (.inr (.inr (.inr e)))
  have hs1:=h.s1
  have hb0:=h.h.b0
  have hli:=h.h.li
  have hll:=h.h.ll
  have hs1':c.sure≤c.h.base+c.h.log.length:=hs1
  have hfl:=(eJ _ _ _).1 h.h.fl
  obtain ⟨x,hx⟩:=rL (h:=c.h) c1 (Int.le_trans c2 hs1)
  have htx:=iX c1 hx
  have hxk:=hfl.1 x (List.mem_of_getElem? hx)
  have hct:c.term index=x.term:=htx
  obtain ⟨m0,m1⟩:=nA (c.h.log.take (index - c.h.base).toNat) c.h.base (c.h.members,c.h.base) (fun y hy=>let e:=hfl.1 y (List.mem_of_mem_take hy);⟨e.m0,e.m1⟩) ⟨h.h.m0,h.h.m1⟩
  have hdl:(c.h.log.drop (index - c.h.base).toNat).length=c.h.log.length - (index - c.h.base).toNat:=List.length_drop
  have ho:Hok { c.h with base:=index,baseTerm:=c.term index,members:=(ofM { c.h with log:=c.h.log.take (index - c.h.base).toNat }).1,snap:=snap,log:=c.h.log.drop (index - c.h.base).toNat }:=
   ⟨h.h.t0,h.h.t1,h.h.v0,h.h.v1,m0,m1,by show 0≤index;omega,by show index≤1099511627776;omega,by show 0≤c.term index;rw [hct];have:=hxk.t0;omega,by show c.term index≤c.h.term;rw [hct];exact hxk.t1,
    ⟨fun e=>by have e':c.term index=0:=e;rw [hct] at e';have:=hxk.t0;omega,fun e=>by have e':index=0:=e;omega⟩,by show (c.h.log.drop _).length≤200;omega,by show (((c.h.log.drop _).length:Nat):Int)≤1099511627776 - index;rw [hdl];omega,
    xI h.h.fl _ (fun y hy=>h.h.drop c1 (Int.le_trans c2 hs1) y hy),⟨fun e=>absurd e c3,fun e=>by have e':index=0:=e;omega⟩,by show snap.length≤65536;omega⟩
  have hlast:bZ { c.h with base:=index,baseTerm:=c.term index,members:=(ofM { c.h with log:=c.h.log.take (index - c.h.base).toNat }).1,snap:=snap,log:=c.h.log.drop (index - c.h.base).toNat }=c.last:=by
   show index+((c.h.log.drop (index - c.h.base).toNat).length:Int)=c.h.base+c.h.log.length
   rw [hdl];omega
  refine ⟨⟨h.i0,h.i1,ho,h.role,h.l0,h.l1,c2,by show c.sure≤bZ _;rw [hlast];exact hs1,h.d0,h.d1,h.f0,h.f1,h.v0,h.v1,by show (c.peers.map _).length=7;rw [List.length_map];exact h.pl,fun hr p hp=>?_,h.tm,h.w⟩,⟨Int.le_refl _,fun _ _=>rfl,Int.le_refl _,by show c.h.base≤index;omega,fun n h1 h2=>?_⟩⟩
  ·obtain ⟨q,hq,rfl⟩:=List.mem_map.1 hp
   have hp':=h.pr hr q hq
   exact ⟨hp'.a0,by show q.mtch≤bZ _;rw [hlast];exact hp'.a1,hp'.n0,by show q.next≤bZ _+1;rw [hlast];exact hp'.n1,Int.le_refl _,.inr rfl⟩
  ·have h1':index<n:=h1
   show c.h.log[(n - c.h.base - 1).toNat]?=(c.h.log.drop (index - c.h.base).toNat)[(n - index - 1).toNat]?
   rw [List.getElem?_drop]
   congr 1
   omega
theorem Inv.new {id:Int} {h:Hard} {cS:Int} {c:Core} (hc:sY id h cS=some c):Inv c∧c.h=h:=by
 unfold sY at hc
 split at hc
 ·cases hc
 ·rename_i hn
  cases hc
  obtain ⟨d0,d1⟩:=pX cS
  have hr:fX h=true:=by
   cases e:fX h with
   | true=>rfl
   | false=>exact absurd (.inr (.inr e)) hn
  have i0:¬ id<0:=fun e=>hn (.inl e)
  have i1:¬ 7≤id:=fun e=>hn (.inr (.inl e))
  have ok:=(pW h).1 hr
  exact ⟨⟨by show 0≤id;omega,by show id<7;omega,ok,.inl rfl,by show (-1:Int)≤-1;decide,by show (-1:Int)≤6;decide,Int.le_refl _,by show h.base≤h.base+_;omega,d0,d1,by show 1≤cX cS;omega,d1,by show (0:Int)≤0;decide,by show (0:Int)≤127;decide,rfl,fun hr=>(by cases hr),fun hr=>absurd rfl hr,fun w hw=>(by cases hw)⟩,rfl⟩
section
def bV (x:Entry):List V:=[.int .i64 x.term,.int .i64 x.members,.str x.data]
def bB (h:Hard) (lv:V):List V:=[.int .i64 h.term,.int .i64 h.vote,.int .i64 h.base,.int .i64 h.baseTerm,.int .i64 h.members,.str h.snap,lv]
def iD (p:Peer):List V:=[.int .i64 p.next,.int .i64 p.mtch,.int .i64 p.off]
def aG (m:Letter) (ev:V):List V:=[.int .i64 m.kind,.int .i64 m.from',.int .i64 m.to,.int .i64 m.term,.int .i64 m.index,.int .i64 m.at',.int .i64 m.commit,.int .i64 m.members,.int .i64 m.off,.int .i64 m.size,.bool m.yes,.str m.data,ev]
def bI (c:Core) (lv wv ov:V):List V:=[.int .i64 c.id]++bB c.h lv++[.int .i64 c.role,.int .i64 c.leads,.int .i64 c.sure,.int .i64 c.drawn,.int .i64 c.left,.int .i64 c.votes]++(c.peers.map iD).flatten++[wv,ov]
theorem eP (h:Hard) {lv:V} (hl:lv.one=true):aH (bB h lv)=true:=by
 simp only [bB,aH,List.all_cons,List.all_nil,hl,Bool.and_true]
 rfl
def S0:St:=⟨0,.nil⟩
theorem aBw {S:St} (w:WF S):Ext S0 S:=⟨fun a b h=>by simp [S0,Tr.get] at h,Nat.zero_le _,fun _=>w⟩
theorem uB:WF S0:=fun a b h=>by simp [S0,Tr.get] at h
abbrev Mn (S:St) (n:Nat) (v:V) (es:List (List V)):Prop:=Own S0 S n v es
structure Fr (O:Nat→Prop) (S S':St):Prop where
 keep:∀ y b,¬ O y→S.heap.get y=some b→S'.heap.get y=some b
 next:S.next≤S'.next
 wf:WF S→WF S'
theorem Fr.of {O:Nat→Prop} {S S':St} (x:Ext S S'):Fr O S S':=⟨fun y b _ h=>x.old y b h,x.next,x.wf⟩
structure Mv (O:Nat→Prop) (S:St) (O':Nat→Prop) (S':St):Prop extends Fr O S S' where
 own:∀ y,O' y→O y∨S.next≤y
theorem Mv.refl (O:Nat→Prop) (S:St):Mv O S O S:=⟨Fr.of (Ext.refl S),fun y h=>.inl h⟩
theorem Mv.trans {O O1 O2:Nat→Prop} {S S1 S2:St} (w:WF S) (h:Mv O S O1 S1) (k:Mv O1 S1 O2 S2):Mv O S O2 S2:=by
 refine ⟨⟨fun y b hy hb=>k.keep y b (fun h1=>?_) (h.keep y b hy hb),Nat.le_trans h.next k.next,fun w=>k.wf (h.wf w)⟩,fun y hy=>?_⟩
 ·rcases h.own y h1 with h2 | h2
  ·exact hy h2
  ·have:=w y b hb;omega
 ·rcases k.own y hy with h1 | h1
  ·exact h.own y h1
  ·exact .inr (Nat.le_trans h.next h1)
theorem Mv.of {O:Nat→Prop} {S S':St} (x:Ext S S'):Mv O S O S':=⟨Fr.of x,fun y h=>.inl h⟩
theorem Mv.sl {O O':Nat→Prop} {S S':St} (h:Mv O S O' S') {n:Nat} {v:V} {es:List (List V)} (hs:Sl S n v es) (hv:∀ y,aO v=some y→¬ O y):Sl S' n v es:=
 hs.keep fun y c hy hc=>h.keep y c (hv y hy) hc
inductive All2 {α β:Type} (R:α→β→Prop):List α→List β→Prop
 | nil:All2 R [] []
 | cons {a:α} {b:β} {l:List α} {m:List β}:R a b→All2 R l m→All2 R (a::l) (b::m)
theorem All2.imp {α β:Type} {R Q:α→β→Prop} (h:∀ a b,R a b→Q a b):∀ {l:List α} {m:List β},All2 R l m→All2 Q l m
 | _,_,.nil=>.nil
 | _,_,.cons a b=>.cons (h _ _ a) (All2.imp h b)
theorem All2.app {α β:Type} {R:α→β→Prop} {a:α} {b:β} (h:R a b):∀ {l:List α} {m:List β},All2 R l m→All2 R (l++[a]) (m++[b])
 | _,_,.nil=>.cons h .nil
 | _,_,.cons x y=>.cons x (All2.app h y)
theorem All2.len {α β:Type} {R:α→β→Prop}:∀ {l:List α} {m:List β},All2 R l m→l.length=m.length
 | _,_,.nil=>rfl
 | _,_,.cons x y=>by simp [All2.len y]
def aO6:V→Option Nat
 | .ptr a _ _ _=>some a
 | _=>none
def tA (b:UInt8):List V:=[.int .u8 b.toNat]
def LetAt (S:St) (L:Option Nat) (m:Letter) (cs:List V):Prop:=∃ ev,cs=aG m ev∧Sl S 3 ev (m.entries.map bV)∧∀ y,aO ev=some y→L≠some y
def WayAt (S:St) (way:Option Inst) (wv dv:V):Prop:=match way with
 | none=>wv=.nilp∧dv=.nils
 | some w=>∃ b,wv=.ptr b 0 0 0∧S.heap.get b=some (.row 0 4 [[.int .i64 w.index,.int .i64 w.at',.int .i64 w.size,dv]])∧Mn S 1 dv (w.data.map tA)
def own (a:Nat) (lv wv dv ov:V) (y:Nat):Prop:=y=a∨aO lv=some y∨aO6 wv=some y∨aO dv=some y∨aO ov=some y
class Guard where
 n:Nat
section
variable [Guard]
def Gd (S:St) (rows:List (List V)):Prop:=Guard.n≤S.next∧∀ r∈rows,∀ ev,r[12]?=some ev→∀ y,aO ev=some y→Guard.n≤y
theorem Gd.mono {S S':St} {rows:List (List V)} (h:Gd S rows) (hn:S.next≤S'.next):Gd S' rows:=⟨Nat.le_trans h.1 hn,h.2⟩
theorem Gd.nil {S:St} (h:Guard.n≤S.next):Gd S []:=⟨h,fun r hr=>by cases hr⟩
structure CoreAt (S:St) (a:Nat) (c:Core) (lv wv dv ov:V) (rows:List (List V)):Prop where
 cell:S.heap.get a=some (.row 0 37 [bI c lv wv ov])
 peers:c.peers.length=7
 log:Mn S 3 lv (c.h.log.map bV)
 way:WayAt S c.way wv dv
 out:Mn S 13 ov rows
 lets:All2 (LetAt S (aO lv)) c.out rows
 gd:Gd S rows
def CoreIn (S:St) (a:Nat) (c:Core) (O:Nat→Prop):Prop:=∃ lv wv dv ov rows,CoreAt S a c lv wv dv ov rows∧O=own a lv wv dv ov
end
theorem Mn.fr {S S':St} {n:Nat} {v:V} {es:List (List V)} (h:Mn S n v es) (hn:S.next≤S'.next) (hg:∀ y b,aO v=some y→S.heap.get y=some b→S'.heap.get y=some b):Mn S' n v es:=by
 refine ⟨?_,h.len⟩
 rcases h.is with h1 | ⟨a,ver,tl,h1,h2,h3,h4⟩
 ·exact .inl h1
 ·exact .inr ⟨a,ver,tl,h1,h2,Nat.lt_of_lt_of_le h3 hn,hg a _ (by rw [h1];rfl) h4⟩
theorem Mn.blk {S:St} {n:Nat} {v:V} {es:List (List V)} (h:Mn S n v es) {y:Nat} (hy:aO v=some y):y<S.next∧∃ ver tl,v=.sl y ver n 0 es.length∧S.heap.get y=some (.row ver n (es++tl)):=by
 rcases h.is with ⟨rfl,_⟩ | ⟨a,ver,tl,rfl,h2,h3,h4⟩
 ·cases hy
 ·cases hy;exact ⟨h3,ver,tl,rfl,h4⟩
theorem Mn.ne {S:St} {n m:Nat} {u v:V} {es fs:List (List V)} (h:Mn S n u es) (k:Mn S m v fs) (hnm:n≠m) {y:Nat} (h1:aO u=some y) (h2:aO v=some y):False:=by
 obtain ⟨_,ver,tl,_,g1⟩:=h.blk h1
 obtain ⟨_,ver',tl',_,g2⟩:=k.blk h2
 rw [g1] at g2
 injection g2 with g2
 injection g2 with _ g2
 exact hnm g2
theorem Mn.neRow {S:St} {n m:Nat} {u:V} {es fs:List (List V)} {y ver:Nat} (h:Mn S n u es) (g2:S.heap.get y=some (.row ver m fs)) (hnm:n≠m):aO u≠some y:=by
 intro h1
 obtain ⟨_,ver,tl,_,g1⟩:=h.blk h1
 rw [g1] at g2
 injection g2 with g2
 injection g2 with _ g2
 exact hnm g2
theorem LetAt.keep {S S':St} {L L':Option Nat} {m:Letter} {cs:List V} (h:LetAt S L m cs) (hk:∀ y ver el,L≠some y→S.heap.get y=some (.row ver 3 el)→S'.heap.get y=some (.row ver 3 el)) (hL:∀ y,y<S.next→L≠some y→L'≠some y) (w:WF S):LetAt S' L' m cs:=by
 obtain ⟨ev,rfl,h1,h2⟩:=h
 rcases h1.is with ⟨rfl,e⟩ | rfl | ⟨a,ver,off,elems,rfl,g1,g2,g3⟩
 ·exact ⟨_,rfl,⟨.inl ⟨rfl,e⟩,h1.len⟩,fun y hy=>by cases hy⟩
 ·exact ⟨_,rfl,⟨.inr (.inl rfl),h1.len⟩,fun y hy=>by cases hy⟩
 ·have g:=eY g1
  refine ⟨_,rfl,⟨.inr (.inr ⟨a,ver,off,elems,rfl,aR (hk a ver elems (h2 a rfl) g),g2,g3⟩),h1.len⟩,fun y hy=>?_⟩
  cases hy
  exact hL a (w _ _ g) (h2 a rfl)
variable [Guard]
theorem CoreAt.fr {S S':St} {a:Nat} {c:Core} {lv wv dv ov:V} {rows:List (List V)} (h:CoreAt S a c lv wv dv ov rows) (w:WF S) (hn:S.next≤S'.next) (hk:∀ y b,S.heap.get y=some b→S'.heap.get y=some b):CoreAt S' a c lv wv dv ov rows:=by
 refine ⟨hk _ _ h.cell,h.peers,Mn.fr h.log hn fun y b _=>hk y b,?_,Mn.fr h.out hn fun y b _=>hk y b,All2.imp (fun m cs q=>q.keep (fun y ver el _=>hk y _) (fun y _ h=>h) w) h.lets,h.gd.mono hn⟩
 have hw:=h.way
 unfold WayAt at hw ⊢
 split at hw
 ·exact hw
 ·obtain ⟨b,e,g,m⟩:=hw
  exact ⟨b,e,hk _ _ g,Mn.fr m hn fun y b _=>hk y b⟩
theorem CoreAt.ext {S S':St} {a:Nat} {c:Core} {lv wv dv ov:V} {rows:List (List V)} (h:CoreAt S a c lv wv dv ov rows) (w:WF S) (x:Ext S S'):CoreAt S' a c lv wv dv ov rows:=h.fr w x.next x.old
theorem CoreAt.lt {S:St} {a:Nat} {c:Core} {lv wv dv ov:V} {rows:List (List V)} (h:CoreAt S a c lv wv dv ov rows) (w:WF S):a<S.next:=w _ _ h.cell
theorem CoreAt.put {S:St} {a:Nat} {c:Core} {lv wv dv ov:V} {rows:List (List V)} (h:CoreAt S a c lv wv dv ov rows) (w:WF S) (c':Core) (h1:c'.h.log=c.h.log) (h2:c'.way=c.way) (h3:c'.out=c.out) (h4:c'.peers.length=7):
  CoreAt ⟨S.next,S.heap.put a (.row 0 37 [bI c' lv wv ov])⟩ a c' lv wv dv ov rows∧Mv (own a lv wv dv ov) S (own a lv wv dv ov) ⟨S.next,S.heap.put a (.row 0 37 [bI c' lv wv ov])⟩:=by
 have hne:∀ y b,y≠a→S.heap.get y=some b→(S.heap.put a (.row 0 37 [bI c' lv wv ov])).get y=some b:=fun y b hy hb=>by rw [Tr.get_put_neB _ _ _ _ trivial hy];exact hb
 refine ⟨⟨Tr.get_put_sameB _ _ _ trivial,h4,?_,?_,?_,?_,h.gd⟩,⟨⟨fun y b hy hb=>hne y b (fun e=>hy (.inl e)) hb,Nat.le_refl _,fun w=>(But.put (h.lt w) _).wf w⟩,fun y hy=>.inl hy⟩⟩
 ·rw [h1]
  exact Mn.fr h.log (Nat.le_refl _) fun y b hy hb=>hne y b (fun e=>h.log.neRow h.cell (by decide) (e▸hy)) hb
 ·rw [h2]
  have hw:=h.way
  unfold WayAt at hw ⊢
  split at hw
  ·exact hw
  ·obtain ⟨b,e,g,m⟩:=hw
   exact ⟨b,e,hne _ _ (fun e=>by subst e;rw [h.cell] at g;cases g) g,Mn.fr m (Nat.le_refl _) fun y b hy hb=>hne y b (fun e=>m.neRow h.cell (by decide) (e▸hy)) hb⟩
 ·exact Mn.fr h.out (Nat.le_refl _) fun y b hy hb=>hne y b (fun e=>h.out.neRow h.cell (by decide) (e▸hy)) hb
 ·rw [h3]
  exact All2.imp (fun m cs q=>q.keep (fun y ver el _ g=>hne y _ (fun e=>by subst e;rw [h.cell] at g;cases g) g) (fun y _ h=>h) w) h.lets
theorem CoreAt.ld {S:St} {a:Nat} {c:Core} {lv wv dv ov:V} {rows:List (List V)} (h:CoreAt S a c lv wv dv ov rows) (k:Nat) {v:V} (hv:(bI c lv wv ov)[k]?=some v):aM none (.ptr a 0 0 k) S=.ok v:=by
 rw [aX _ _ _ _ _ (aR h.cell)];exact aDg _ _ hv
theorem CoreAt.st {S:St} {a:Nat} {c:Core} {lv wv dv ov:V} {rows:List (List V)} (h:CoreAt S a c lv wv dv ov rows) (w:WF S) (k:Nat) (x:V) (c':Core) (hx:x.cells=[x]) (ho:x.one=true) (hk:k<(bI c lv wv ov).length) (hc:splice (bI c lv wv ov) k [x]=bI c' lv wv ov)
  (h1:c'.h.log=c.h.log) (h2:c'.way=c.way) (h3:c'.out=c.out) (h4:c'.peers.length=7):
  ∃ S',bG 1 (.ptr a 0 0 k) x S=.ok S'∧CoreAt S' a c' lv wv dv ov rows∧Mv (own a lv wv dv ov) S (own a lv wv dv ov) S'∧S'.next=S.next:=by
 have e:=dE (x:=x) (j:=k) (m:=1) h.cell (by rw [hx];rfl) (by rw [hx];simp [aH,ho]) (by omega)
 rw [hx,hc] at e
 exact ⟨_,e,(h.put w c' h1 h2 h3 h4).1,(h.put w c' h1 h2 h3 h4).2,rfl⟩
end
end Go.Raft
end
section
namespace Go.Proofs.Ytbiidlmhadihlaa
open Go.AM Go.Raft Try
abbrev xM (f:FuncId) (args:List V) (S:St) (v:V):Prop:=Gives prog bD bE f args S v
theorem aMw (x:Int):wr .i64 ((BitVec.ofInt IntKind.i64.bits x &&& BitVec.ofInt IntKind.i64.bits 1).toNat)=x % 2:=by
 have h1:(BitVec.ofInt IntKind.i64.bits x &&& BitVec.ofInt IntKind.i64.bits 1).toNat=(x % 2).toNat:=by
  show (BitVec.ofInt 64 x &&& BitVec.ofInt 64 1).toNat=_
  rw [BitVec.toNat_and]
  have h2:(BitVec.ofInt 64 1).toNat=1:=by decide
  rw [h2,Nat.and_one_is_mod,BitVec.toNat_ofInt]
  omega
 rw [h1,dC (by omega) (by omega)]
 omega
theorem g50 (m id:Int) (S:St) (h0:0≤m):xM 50 [.int .i64 m,.int .i64 id] S (.bool (cZ m id)):=by
 refine e50 ?_
 simp only [m50,eO,aF]
 refine Ok.pickP (fun c0=>?_) (fun c0=>Ok.ret ⟨by simp [cZ,c0],Ext.refl S⟩)
 simp only [bK,aF]
 refine Ok.pickP (fun c1=>?_) (fun c1=>Ok.ret ⟨by simp [cZ,c1],Ext.refl S⟩)
 have hw:wr .u64 id=id:=by unfold wr lo hi;simp only;rw [if_pos (by omega)]
 have hsh:aD prog .shr 3 (.int .i64 m) (.int .u64 id)=.ok (.int .i64 (m / 2 ^ id.toNat)):=by
  simp only [aD,nF,show ¬ id<0 by omega,decide_false,cond_false]
  have:min id.toNat IntKind.i64.bits=id.toNat:=by show min id.toNat 64=_;omega
  rw [this,Int.fdiv_eq_ediv_of_nonneg _ (Int.pow_nonneg (by decide))]
 have han:aD prog .and 3 (.int .i64 (m / 2 ^ id.toNat)) (.int .i64 1)=.ok (.int .i64 (m / 2 ^ id.toNat % 2)):=by
  simp only [aD,bR,cond_true,dD,aMw]
 simp only [aBm,hw,aF,hsh,han,bF,aP,cK]
 exact Ok.ret ⟨by simp [cZ,aS5,c0,c1],Ext.refl S⟩
def lI (n:Int):List V:=[.int .i64 n]
theorem rM {l:List Int}:(l.map lI).length=l.length:=List.length_map ..
theorem aHa (S:St) (n:Int):cN 1 [.int .i64 0] 1 [(0,.int .i64 n)] none S=.ok (.sl S.next 0 1 0 1,⟨S.next+1,S.heap.put S.next (.row 0 1 [lI n])⟩):=by
 unfold cN
 rw [if_pos (by omega)]
 simp only [cM]
 rfl
def kM (m:Int) (l:List Int) (i:Nat):List Int⊕List Int:=.inr (if cZ m (i:Int)=true then l++[(i:Int)] else l)
theorem aS6 (m:Int):gC (kM m) id (List.range 7) []=jK m:=by
 show gC (kM m) id [0,1,2,3,4,5,6] []=_
 simp only [gC,kM,jK,ids,id,Int.natCast_zero,List.filter_cons,List.filter_nil]
 have e1:((1:Nat):Int)=1:=rfl
 have e2:((2:Nat):Int)=2:=rfl
 have e3:((3:Nat):Int)=3:=rfl
 have e4:((4:Nat):Int)=4:=rfl
 have e5:((5:Nat):Int)=5:=rfl
 have e6:((6:Nat):Int)=6:=rfl
 simp only [e1,e2,e3,e4,e5,e6]
 cases cZ m 0<;>cases cZ m 1<;>cases cZ m 2<;>cases cZ m 3<;>cases cZ m 4<;>cases cZ m 5<;>cases cZ m 6<;>rfl
theorem aS7 (m:Int) (S:St) (w:WF S) (h0:0≤m):Does prog bD bE 101 [.int .i64 m] S (fun u S'=>Ext S S'∧Own S S' 1 u ((jK m).map lI)):=by
 refine aUp ?_
 simp only [aMb]
 rw [←aS6]
 refine Ok.loopL (F:=fun k K=>uV (aC prog bD bE k) k K (.int .i64 m)) (ρ:=List Int) (α:=Nat) (X:=V) (List.range 7) (step:=kM m) (fin:=id) (s:=[])
  (out:=fun k K x S'=>K x S')
  (fun i l vs S'=>∃ u,vs=[u,.int .i64 (i:Int)]∧Ext S S'∧Own S S' 1 u (l.map lI)∧l.length≤i)
  (fun l u S'=>Ext S S'∧Own S S' 1 u (l.map lI)) ?_ ?_ ⟨.nils,rfl,Ext.refl S,Own.nil _ _ _,Nat.le_refl _⟩ (fun x S1 h=>Ok.ret h)
 ·rintro i j l vs S1 ⟨u,rfl,x1,own1,hl⟩ hi
  have hj:i<7∧j=i:=by
   obtain ⟨h1,h2⟩:=List.getElem?_eq_some_iff.1 hi
   rw [List.length_range] at h1
   rw [List.getElem_range] at h2
   exact ⟨h1,h2.symm⟩
  obtain ⟨hj,rfl⟩:=hj
  have hlt:(j:Int)<7:=by omega
  have hw:wr .i64 ((j:Int)+1)=((j+1:Nat):Int):=by rw [dC (by omega) (by omega)];omega
  simp only [uV,bH,bK,aF,hlt,decide_true,bQ]
  refine (g50 m j S1 h0).callL fun S2 x2=>?_
  have x02:=x1.trans x2
  refine OkL.pick (fun h=>?_) (fun h=>?_)
  ·have hnew:=Ext.new (x02.wf w) (.row 0 1 [lI (j:Int)])
   have hel:bO (⟨S2.next+1,S2.heap.put S2.next (.row 0 1 [lI (j:Int)])⟩:St) (.sl S2.next 0 1 0 1)=.ok [lI (j:Int)]:=by
    simp only [bO,fG]
    rfl
   obtain ⟨u',S4,r1,r2,_,r4⟩:=((own1.ext x2).ext hnew).push (b:=8) (x02.trans hnew) w hel (fun c hc=>by rw [List.mem_singleton.1 hc];exact ⟨rfl,rfl⟩) (by simp) (by rw [rM];simp only [List.length_cons,List.length_nil];omega) (by rw [rM];simp only [List.length_cons,List.length_nil];unfold eV;omega)
   simp only [aRw,aHa,aO4,r1,aF,cG,hw]
   refine OkL.next ⟨l++[(j:Int)],by unfold kM;rw [if_pos h],u',rfl,r2,by rw [List.map_append];exact r4,by simp;omega⟩
  ·simp only [cG,hw,aF]
   refine OkL.next ⟨l,by unfold kM;rw [h];rfl,u,rfl,x02,own1.ext x2,by omega⟩
 ·rintro l vs S1 ⟨u,rfl,x1,own1,hl⟩
  refine ⟨u,⟨x1,own1⟩,fun k K aK=>?_⟩
  have hlt:¬ (((List.range 7).length:Nat):Int)<7:=by rw [List.length_range];decide
  simp only [uV,bH,bK,aF,hlt,decide_false,aU]
theorem g93 (m:Int) (S:St) (w:WF S) (h0:0≤m):xM 93 [.int .i64 m] S (.int .i64 (gU m)):=by
 refine e93 ?_
 simp only [m93]
 refine Does.call (aS7 m S w h0) fun u S1 ⟨x1,own1⟩=>?_
 simp only [aH7,own1.sl.lenI,aF]
 exact Ok.ret ⟨rfl,x1⟩
theorem g92 (m:Int) (S:St):xM 92 [.int .i64 m] S (.bool (uA m)):=by
 refine e92 ?_
 simp only [m92,eO,fT,aF]
 refine Ok.pickP (fun c0=>Ok.ret ⟨by simp [uA,c0],Ext.refl S⟩) (fun c0=>Ok.ret ⟨by simp [uA,c0],Ext.refl S⟩)
theorem aDw (m:Int):0≤gU m∧gU m≤7:=by
 unfold gU jK
 have:=List.length_filter_le (cZ m) ids
 have h7:ids.length=7:=rfl
 omega
theorem aKs {m n:Int} (h0:0≤m) (h1:m≤127) (k0:0≤n) (k1:n≤127):wr .i64 ((BitVec.ofInt IntKind.i64.bits m &&& BitVec.ofInt IntKind.i64.bits n).toNat)=aDv m n:=by
 have all:∀ a:Nat,a<128→∀ b:Nat,b<128→((a &&& b:Nat):Int)=aDv (a:Int) (b:Int):=by decide +kernel
 have hm:m=(m.toNat:Int):=by omega
 have hn:n=(n.toNat:Int):=by omega
 have e:(BitVec.ofInt IntKind.i64.bits m &&& BitVec.ofInt IntKind.i64.bits n).toNat=m.toNat &&& n.toNat:=by
  show (BitVec.ofInt 64 m &&& BitVec.ofInt 64 n).toNat=_
  rw [BitVec.toNat_and,BitVec.toNat_ofInt,BitVec.toNat_ofInt]
  congr 1<;>omega
 have hle:m.toNat &&& n.toNat≤m.toNat:=Nat.and_le_left
 rw [e,dC (by omega) (by omega),all _ (by omega) _ (by omega),←hm,←hn]
theorem aIl {m n:Int} (h0:0≤m) (h1:m≤127) (k0:0≤n) (k1:n≤127):0≤aDv m n:=by
 rw [←aKs h0 h1 k0 k1]
 have hle:(BitVec.ofInt IntKind.i64.bits m &&& BitVec.ofInt IntKind.i64.bits n).toNat≤127:=by
  show (BitVec.ofInt 64 m &&& BitVec.ofInt 64 n).toNat≤_
  rw [BitVec.toNat_and,BitVec.toNat_ofInt,BitVec.toNat_ofInt]
  exact Nat.le_trans Nat.and_le_left (by omega)
 rw [dC (by omega) (by omega)]
 omega
theorem g84 (m yes:Int) (S:St) (w:WF S) (k0:0≤yes) (k1:yes≤127):xM 84 [.int .i64 m,.int .i64 yes] S (.bool (mV m yes)):=by
 refine e84 ?_
 simp only [m84]
 refine (g92 m S).call fun S1 x1=>?_
 refine Ok.pick (fun h=>?_) (fun h=>Ok.ret ⟨by unfold mV;rw [h];rfl,x1⟩)
 have hs:=h
 simp only [uA,Bool.and_eq_true,decide_eq_true_eq] at hs
 have han:aD prog .and 3 (.int .i64 m) (.int .i64 yes)=.ok (.int .i64 (aDv m yes)):=by
  simp only [aD,bR,cond_true,dD,aKs (show 0≤m by omega) hs.2 k0 k1]
 simp only [han,aF]
 refine (g93 _ S1 (x1.wf w) (aIl (by omega) hs.2 k0 k1)).call fun S2 x2=>?_
 have c1:=aDw (aDv m yes)
 have hw:wr .i64 (2*gU (aDv m yes))=2*gU (aDv m yes):=dC (by omega) (by omega)
 simp only [aGx,hw,aF]
 refine (g93 m S2 ((x1.trans x2).wf w) (by omega)).call fun S3 x3=>?_
 simp only [dY,aF]
 exact Ok.ret ⟨by unfold mV;rw [h];rfl,x1.trans (x2.trans x3)⟩
theorem g34 (d:Int) (S:St):xM 34 [.int .i64 d] S (.int .i64 (cX d)):=by
 refine e34 ?_
 obtain ⟨r0,r1⟩:=pX d
 have ht:-11<d.tmod 11∧d.tmod 11<11:=by
  have:=Int.tmod_eq_emod (a:=d) (b:=11)
  have h1:=Int.emod_nonneg d (b:=11) (by omega)
  have h2:=Int.emod_lt_of_pos d (b:=11) (by omega)
  split at this<;>omega
 simp only [m34,aBb _ _ _ _ _ (by decide:(11:Int)≠0),bK,cG,aF]
 refine Ok.pickP (fun h=>Ok.ret ⟨?_,Ext.refl S⟩) (fun h=>Ok.ret ⟨?_,Ext.refl S⟩)
 ·have e:wr .i64 (d.tmod 11+11)=d.tmod 11+11:=dC (by omega) (by omega)
  unfold cX;rw [if_pos h,e,dC (by omega) (by omega)]
 ·unfold cX;rw [if_neg h,dC (by omega) (by omega)]
def tB (b len:Int) (i:Nat) (x:Entry):(Int×Int)⊕Nat:=if x.members=0 then .inr (i+1) else .inl (x.members,b+(len - i))
theorem xN (x:Entry):∀ (l:List Entry) (b:Int) (r:Int×Int),ofL b (l++[x]) r=if x.members=0 then ofL b l r else (x.members,b+l.length+1)
 | [],b,r=>by simp [ofL]
 | y::l,b,r=>by
  simp only [List.cons_append,ofL,xN x l,List.length_cons]
  split
  ·rfl
  ·congr 1;push_cast;omega
theorem aS8 (b:Int) (r:Int×Int):∀ (n:Nat) (l:List Entry) (i:Nat),l.length=n→gC (tB b ((l.length+i:Nat):Int)) (fun _=>r) l.reverse i=ofL b l r:=by
 intro n
 induction n with
 | zero=>
  intro l i h
  have:l=[]:=List.length_eq_zero_iff.1 h
  subst this
  rfl
 | succ n ih=>
  intro l i h
  obtain ⟨m,x,rfl⟩:∃ m x,l=m++[x]:=by
   rcases List.eq_nil_or_concat l with rfl | ⟨m,p,rfl⟩
   ·simp at h
   ·exact ⟨m,p,by simp⟩
  simp only [List.length_append,List.length_cons,List.length_nil] at h
  rw [List.reverse_append,xN]
  simp only [List.reverse_cons,List.reverse_nil,List.nil_append,List.singleton_append,gC,tB]
  split
  ·rename_i s hs
   split at hs
   ·cases hs
   ·rename_i hm
    cases hs
    rw [if_neg hm]
    congr 1
    simp only [List.length_append,List.length_cons,List.length_nil]
    push_cast;omega
  ·rename_i s hs
   split at hs
   ·rename_i hm
    cases hs
    rw [if_pos hm]
    have:=ih m (i+1) (by omega)
    have e:(m++[x]).length+i=m.length+(i+1):=by simp;omega
    rw [e]
    exact this
   ·cases hs
theorem g49 (h:Hard) (lv:V) (S:St) (w:WF S) (hs:Sl S 3 lv (h.log.map bV)) (hl:h.log.length≤1000000) (b0:0≤h.base) (b1:h.base≤1099511627776):xM 49 [.agg (bB h lv)] S (.tup [.int .i64 (ofM h).1,.int .i64 (ofM h).2]):=by
 refine e49 ?_
 have ho:=eP h hs.one
 have hln:(bB h lv).length=7:=rfl
 obtain ⟨S1,hn1,x1,hg1,hnx1⟩:=nb w 7 (bB h lv)
 have w1:=x1.wf w
 have hs1:=hs.ext x1
 have ldl:∀ {T:St},T.heap.get S.next=some (.row 0 7 [bB h lv])→aM none (.ptr S.next 0 0 (0+6)) T=.ok lv:=fun hg=>by rw [aX _ _ _ _ _ (aR hg)];rfl
 have ldb:∀ {T:St},T.heap.get S.next=some (.row 0 7 [bB h lv])→aM none (.ptr S.next 0 0 (0+2)) T=.ok (.int .i64 h.base):=fun hg=>by rw [aX _ _ _ _ _ (aR hg)];rfl
 have ldm:∀ {T:St},T.heap.get S.next=some (.row 0 7 [bB h lv])→aM none (.ptr S.next 0 0 (0+4)) T=.ok (.int .i64 h.members):=fun hg=>by rw [aX _ _ _ _ _ (aR hg)];rfl
 have hw1:wr .i64 ((h.log.length:Int) - 1)=(h.log.length:Int) - 1:=dC (by omega) (by omega)
 simp only [m49,bL,ho,hln,aP,hn1,aF,iJ,aJ,oA,ldl hg1,rK,hs1.lenI,dK,hw1]
 have hall:ofM h=gC (tB h.base ((h.log.length+0:Nat):Int)) (fun _=>(h.members,h.base)) h.log.reverse 0:=(aS8 h.base (h.members,h.base) _ h.log 0 rfl).symm
 rw [hall]
 have hrl:h.log.reverse.length=h.log.length:=List.length_reverse
 refine Ok.loop (F:=fun k K=>wQ (aC prog bD bE k) k K (.ptr S.next 0 0 0)) (ρ:=Int×Int) (α:=Entry) (X:=Int×Int) h.log.reverse (step:=tB h.base ((h.log.length+0:Nat):Int)) (fin:=fun _=>(h.members,h.base)) (s:=0)
  (out:=fun k K x S'=>K (.tup [.int .i64 x.1,.int .i64 x.2]) S')
  (fun i n vs T=>n=i∧vs=[.int .i64 0,.int .i64 0,.int .i64 ((h.log.length:Int) - 1 - i)]∧Ext S1 T)
  (fun r x T=>r=x∧Ext S1 T) ?_ ?_ ⟨rfl,by simp,Ext.refl _⟩ (fun x T ⟨e,xt⟩=>Ok.ret ⟨by rw [e],x1.trans xt⟩)
 ·rintro i x n vs T ⟨rfl,rfl,xt⟩ hi
  have hil:n<h.log.length:=by have:=(List.getElem?_eq_some_iff.1 hi).1;omega
  have hge:(0:Int)≤(h.log.length:Int) - 1 - (n:Int):=by omega
  obtain ⟨j,hj⟩:∃ j:Nat,(h.log.length:Int) - 1 - (n:Int)=(j:Int):=⟨h.log.length - 1 - n,by omega⟩
  have hgj:(0:Int)≤(j:Int):=by omega
  have hjx:h.log[j]?=some x:=by
   rw [List.getElem?_reverse hil] at hi
   rw [show j=h.log.length - 1 - n by omega];exact hi
  have xb:Ext T (⟨T.next+13,T.heap⟩:St):=(Ext.refl T).bump 13
  have gt:=xt.old _ _ hg1
  have gb:=xb.old _ _ gt
  obtain ⟨p,hp,hat,_,_⟩:=((hs1.ext xt).ext xb).elem hjx
  have hat0:aM none (adv 1 p) T=.ok (.int .i64 x.members):=by
   obtain ⟨p',hp',hat',_,_⟩:=(hs1.ext xt).elem hjx
   rw [hp] at hp';cases hp'
   rw [hat'.load];rfl
  have hat1:aM none (adv 1 p) (⟨T.next+13,T.heap⟩:St)=.ok (.int .i64 x.members):=by rw [hat.load];rfl
  have hw2:wr .i64 ((j:Int) - 1)=(h.log.length:Int) - 1 - ((n+1:Nat):Int):=by rw [dC (by omega) (by omega)];push_cast;omega
  have hw3:wr .i64 (h.base+(j:Int))=h.base+(j:Int):=dC (by omega) (by omega)
  have hw4:wr .i64 (h.base+(j:Int)+1)=h.base+((h.log.length:Int) - n):=by rw [dC (by omega) (by omega)];omega
  have pre:∀ (k:Nat) (K:KS) (aK:Ag),wQ (aC prog bD bE k) k K (.ptr S.next 0 0 0) [.int .i64 0,.int .i64 0,.int .i64 ((h.log.length:Int) - 1 - n)] T aK=if x.members=0 then aK [.int .i64 0,.int .i64 0,.int .i64 ((h.log.length:Int) - 1 - ((n+1:Nat):Int))] T else K (.tup [.int .i64 x.members,.int .i64 (h.base+((h.log.length:Int) - n))]) (⟨T.next+13,T.heap⟩:St):=by
   intro k K aK
   simp only [wQ,bH,eO,aF,hj,hgj,decide_true,bQ,iJ,fP,aJ,oA,ldl gt,ldl gb,hj,aKj,hp,aKg,hat.advW,eQ,hat0,hat1,ldb gb,bF,aP,eX,cG,dK,hw2,hw3,hw4]
   by_cases c:x.members=0
   ·simp only [c,decide_true,Bool.not_true,aU,if_true]
   ·simp only [c,decide_false,Bool.not_false,bQ,if_false]
  refine ⟨0,?_⟩
  by_cases c:x.members=0
  ·exact .inr ⟨n+1,[.int .i64 0,.int .i64 0,.int .i64 ((h.log.length:Int) - 1 - ((n+1:Nat):Int))],T,by unfold tB;rw [if_pos c],⟨rfl,rfl,xt⟩,fun k K aK _=>by rw [pre,if_pos c]⟩
  ·exact .inl ⟨(x.members,h.base+((h.log.length:Int) - n)),(x.members,h.base+((h.log.length:Int) - n)),(⟨T.next+13,T.heap⟩:St),by unfold tB;rw [if_neg c];simp,⟨rfl,xt.trans xb⟩,fun k K aK _=>by rw [pre,if_neg c]⟩
 ·rintro n vs T ⟨rfl,rfl,xt⟩
  have hge:¬ (0:Int)≤(h.log.length:Int) - 1 - ((h.log.reverse.length:Nat):Int):=by omega
  have xb:Ext T (⟨T.next+6,T.heap⟩:St):=(Ext.refl T).bump 6
  have gb:=xb.old _ _ (xt.old _ _ hg1)
  refine ⟨0,(h.members,h.base),(⟨T.next+6,T.heap⟩:St),⟨rfl,xt.trans xb⟩,fun k K aK _=>?_⟩
  simp only [wQ,bH,eO,aF,hge,decide_false,aU,wZ,fP,aJ,eQ,ldm gb,ldb gb]
theorem yT (n a b:Int) (S:St):xM 103 [.int .i64 n,.int .i64 a,.int .i64 b] S (.bool (kR n a b)):=by
 refine aUr ?_
 simp only [aMf,eO,fT,aF]
 refine Ok.pickP (fun c0=>Ok.ret ⟨by simp [kR,c0],Ext.refl S⟩) (fun c0=>Ok.ret ⟨by simp [kR,c0],Ext.refl S⟩)
theorem aDx (s:List UInt8):(s == ([]:List UInt8))=decide (s=[]):=by cases s<;>simp
theorem g95 (x:Entry) (b t:Int) (S:St) (w:WF S):xM 95 [.agg (bV x),.int .i64 b,.int .i64 t] S (.bool (mW x b t)):=by
 refine e95 ?_
 have ho:aH (bV x)=true:=rfl
 have hln:(bV x).length=3:=rfl
 obtain ⟨S1,hn1,x1,hg1,hnx1⟩:=nb w 3 (bV x)
 have v0:aM none (.ptr S.next 0 0 (0+0)) S1=.ok (.int .i64 x.term):=by rw [aX _ _ _ _ _ (aR hg1)];rfl
 have v1:aM none (.ptr S.next 0 0 (0+1)) S1=.ok (.int .i64 x.members):=by rw [aX _ _ _ _ _ (aR hg1)];rfl
 have v2:aM none (.ptr S.next 0 0 (0+2)) S1=.ok (.str x.data):=by rw [aX _ _ _ _ _ (aR hg1)];rfl
 have hl9:dI prog 9 (.str x.data) S1=.ok (.int .i64 x.data.length):=sN (by kernel_rfl) _ _
 simp only [m95,bL,ho,hln,aP,hn1,aF,sV,aKg,aQ2,aJ,eQ,ld9,v0,v1,v2,hl9,bK,dY,fT,bF,iW,cK,uU,aDx]
 refine Ok.pickP (fun c=>Ok.ret ⟨by rw [mW,decide_eq_false (by omega:¬ 1≤x.term)];rfl,x1⟩) fun c1=>?_
 refine Ok.pickP (fun c=>Ok.ret ⟨by rw [mW,decide_eq_true (by omega:1≤x.term),decide_eq_false (by omega:¬ b≤x.term)];rfl,x1⟩) fun c2=>?_
 refine Ok.pickP (fun c=>Ok.ret ⟨by rw [mW,decide_eq_true (by omega:1≤x.term),decide_eq_true (by omega:b≤x.term),decide_eq_false (by omega:¬ x.term≤t)];rfl,x1⟩) fun c3=>?_
 have hp:mW x b t=(decide (0≤x.members)&&(decide (x.members≤127)&&(decide (x.data.length≤1100)&&(decide (x.members=0)||decide (x.data=[]))))):=by
  rw [mW,decide_eq_true (by omega:1≤x.term),decide_eq_true (by omega:b≤x.term),decide_eq_true (by omega:x.term≤t)];rfl
 rw [hp]
 refine Ok.pickP (fun c=>Ok.ret ⟨by rw [decide_eq_false (by omega:¬ 0≤x.members)];rfl,x1⟩) fun c4=>?_
 refine Ok.pickP (fun c=>Ok.ret ⟨by rw [decide_eq_true (by omega:0≤x.members),decide_eq_false (by omega:¬ x.members≤127)];rfl,x1⟩) fun c5=>?_
 rw [decide_eq_true (by omega:0≤x.members),decide_eq_true (by omega:x.members≤127)]
 refine Ok.pickP (fun c=>?_) (fun c=>Ok.ret ⟨by rw [decide_eq_false (by omega:¬ x.data.length≤1100)];rfl,x1⟩)
 rw [decide_eq_true (by omega:x.data.length≤1100)]
 refine Ok.pickP (fun c=>Ok.ret ⟨by rw [decide_eq_true c];rfl,x1⟩) (fun c=>Ok.ret ⟨by rw [decide_eq_false c];rfl,x1⟩)
def jL (h:Hard):Prop:=0≤h.term∧h.term≤1099511627776∧-1≤h.vote∧h.vote<7∧1≤h.members∧h.members≤127∧0≤h.base∧h.base≤1099511627776∧0≤h.baseTerm∧h.baseTerm≤h.term∧(h.baseTerm=0↔h.base=0)∧h.log.length≤200∧(h.log.length:Int)≤1099511627776 - h.base
theorem aMx {h:Hard} (q:¬ jL h):lR h=false:=by
 cases e:lR h with
 | false=>rfl
 | true=>
  simp only [lR,Bool.and_eq_true,decide_eq_true_eq] at e
  exact absurd ⟨e.1,e.2.1,e.2.2.1,e.2.2.2.1,e.2.2.2.2.1,e.2.2.2.2.2.1,e.2.2.2.2.2.2.1,e.2.2.2.2.2.2.2.1,e.2.2.2.2.2.2.2.2.1,e.2.2.2.2.2.2.2.2.2.1,e.2.2.2.2.2.2.2.2.2.2.1,e.2.2.2.2.2.2.2.2.2.2.2.1,e.2.2.2.2.2.2.2.2.2.2.2.2.1⟩ q
theorem aKt {h:Hard} (q:jL h):lR h=eZ h.term h.log h.baseTerm:=by
 obtain ⟨a1,a2,a3,a4,a5,a6,a7,a8,a9,a10,a11,a12,a13⟩:=q
 unfold lR
 rw [decide_eq_true a1,decide_eq_true a2,decide_eq_true a3,decide_eq_true a4,decide_eq_true a5,decide_eq_true a6,decide_eq_true a7,decide_eq_true a8,decide_eq_true a9,decide_eq_true a10,decide_eq_true a11,decide_eq_true a12,decide_eq_true a13]
 rfl
def rN (t:Int) (b:Int) (x:Entry):Bool⊕Int:=if mW x b t=true then .inr x.term else .inl false
theorem aS9 (t:Int):∀ (l:List Entry) (b:Int),gC (rN t) (fun _=>true) l b=eZ t l b
 | [],b=>rfl
 | x::l,b=>by
  simp only [gC,rN,eZ]
  cases mW x b t with
  | true=>simp only [if_true,Bool.true_and];exact aS9 t l _
  | false=>rfl
theorem aV0:(fun a b=>aD prog .neq 4 (.bool a) (.bool b))=fun a b=>.ok (.bool (!(a == b))):=by kernel_rfl
theorem aV1:(fun a b=>aD prog .eql 4 (.bool a) (.bool b))=fun a b=>.ok (.bool (a == b)):=by kernel_rfl
theorem aIm (a b:Bool):aD prog .neq 4 (.bool a) (.bool b)=.ok (.bool (!(a == b))):=congrFun (congrFun aV0 a) b
theorem tC (a b:Bool):aD prog .eql 4 (.bool a) (.bool b)=.ok (.bool (a == b)):=congrFun (congrFun aV1 a) b
theorem g67 (h:Hard) (lv:V) (S:St) (w:WF S) (hs:Sl S 3 lv (h.log.map bV)) (hl:h.log.length≤1000000):xM 67 [.agg (bB h lv)] S (.bool (lR h)):=by
 refine e67 ?_
 have ho:=eP h hs.one
 have hln:(bB h lv).length=7:=rfl
 obtain ⟨S1,hn1,x1,hg1,hnx1⟩:=nb w 7 (bB h lv)
 have w1:=x1.wf w
 have hs1:=hs.ext x1
 have v0:∀ {T:St},T.heap.get S.next=some (.row 0 7 [bB h lv])→aM none (.ptr S.next 0 0 (0+0)) T=.ok (.int .i64 h.term):=fun hg=>by rw [aX _ _ _ _ _ (aR hg)];rfl
 have v1:aM none (.ptr S.next 0 0 (0+1)) S1=.ok (.int .i64 h.vote):=by rw [aX _ _ _ _ _ (aR hg1)];rfl
 have v2:aM none (.ptr S.next 0 0 (0+2)) S1=.ok (.int .i64 h.base):=by rw [aX _ _ _ _ _ (aR hg1)];rfl
 have v3:aM none (.ptr S.next 0 0 (0+3)) S1=.ok (.int .i64 h.baseTerm):=by rw [aX _ _ _ _ _ (aR hg1)];rfl
 have v4:aM none (.ptr S.next 0 0 (0+4)) S1=.ok (.int .i64 h.members):=by rw [aX _ _ _ _ _ (aR hg1)];rfl
 have v6:aM none (.ptr S.next 0 0 (0+6)) S1=.ok lv:=by rw [aX _ _ _ _ _ (aR hg1)];rfl
 have no:∀ (q:¬ jL h),(V.bool false=V.bool (lR h)):=fun q=>by rw [aMx q]
 simp only [m67,bL,ho,hln,aP,hn1,aF,lF,wX,fP,wY,wZ,iJ,aJ,eQ,oA,v0 hg1,v1,v2,v3,v4,v6,rK,hs1.lenI,bK,dY,eO,cK,dK,bF,lC,aIm]
 refine Ok.pickP (fun c=>Ok.ret ⟨no fun q=>by unfold jL at q;omega,x1⟩) fun c1=>?_
 refine Ok.pickP (fun c=>Ok.ret ⟨no fun q=>by unfold jL at q;omega,x1⟩) fun c2=>?_
 refine Ok.pickP (fun c=>Ok.ret ⟨no fun q=>by unfold jL at q;omega,x1⟩) fun c3=>?_
 refine Ok.pickP (fun c=>Ok.ret ⟨no fun q=>by unfold jL at q;omega,x1⟩) fun c4=>?_
 refine Ok.pickP (fun c=>Ok.ret ⟨no fun q=>by unfold jL at q;omega,x1⟩) fun c5=>?_
 refine Ok.pickP (fun c=>Ok.ret ⟨no fun q=>by unfold jL at q;omega,x1⟩) fun c6=>?_
 refine Ok.pickP (fun c=>Ok.ret ⟨no fun q=>by unfold jL at q;omega,x1⟩) fun c7=>?_
 refine Ok.pickP (fun c=>Ok.ret ⟨no fun q=>by unfold jL at q;omega,x1⟩) fun c8=>?_
 refine Ok.pickP (fun c=>Ok.ret ⟨no fun q=>by unfold jL at q;omega,x1⟩) fun c9=>?_
 refine Ok.pickP (fun c=>Ok.ret ⟨no fun q=>by unfold jL at q;omega,x1⟩) fun c10=>?_
 refine Ok.pick (fun c=>Ok.ret ⟨no fun q=>?_,x1⟩) fun c11=>?_
 ·have q11:=q.2.2.2.2.2.2.2.2.2.2.1
  by_cases e:h.base=0
  ·simp [q11.2 e,e] at c
  ·have e2:¬ h.baseTerm=0:=fun e2=>e (q11.1 e2)
   simp [e,e2] at c
 have q11:h.baseTerm=0↔h.base=0:=by
  by_cases e:h.base=0<;>by_cases e2:h.baseTerm=0<;>simp [e,e2] at c11 ⊢
 have hwb:wr .i64 (1099511627776 - h.base)=1099511627776 - h.base:=dC (by omega) (by omega)
 refine Ok.pickP (fun c=>Ok.ret ⟨no fun q=>by unfold jL at q;omega,x1⟩) fun c12=>?_
 simp only [hwb]
 refine Ok.pickP (fun c=>Ok.ret ⟨no fun q=>by unfold jL at q;omega,x1⟩) fun c13=>?_
 have hyes:lR h=eZ h.term h.log h.baseTerm:=aKt ⟨by omega,by omega,by omega,by omega,by omega,by omega,by omega,by omega,by omega,by omega,q11,by omega,by omega⟩
 rw [hyes,←aS9]
 refine Ok.loopL (F:=fun k K=>aBi (aC prog bD bE k) k K (.ptr S.next 0 0 0) lv (.int .i64 h.log.length)) (ρ:=Bool) (α:=Entry) (X:=Bool) h.log (step:=rN h.term) (fin:=fun _=>true) (s:=h.baseTerm)
  (out:=fun k K x S'=>K (.bool x) S')
  (fun i b vs T=>vs=[.bool false,.int .i64 b,.int .i64 (i:Int)]∧Ext S1 T)
  (fun r x T=>r=x∧Ext S1 T) ?_ ?_ ⟨rfl,Ext.refl _⟩ (fun x T ⟨e,xt⟩=>Ok.ret ⟨by rw [e],x1.trans xt⟩)
 ·rintro i x b vs T ⟨rfl,xt⟩ hi
  have hil:i<h.log.length:=(List.getElem?_eq_some_iff.1 hi).1
  have hlt:(i:Int)<(h.log.length:Int):=by omega
  have hw:wr .i64 ((i:Int)+1)=((i+1:Nat):Int):=by rw [dC (by omega) (by omega)];omega
  obtain ⟨p,hp,hld,hst,hxv,hv⟩:=(hs1.ext xt).var (xt.wf w1) hi [.int .i64 0,.int .i64 0,.str []] rfl
  generalize T.var 3 [.int .i64 0,.int .i64 0,.str []] (bV x)=T2 at hst hxv hv
  have x02:=xt.trans hxv
  have u0:aM (some 3) (.ptr T.next 0 0 0) T2=.ok (.agg (bV x)):=by rw [hv _ (Ext.refl _)];exact dV _ _ rfl
  simp only [aBi,bH,bK,aF,hlt,decide_true,bQ,aKj,hp,aMr,hld,cM,aQ6,hst,u0,lF,aJ,eQ,v0 (x02.old _ _ hg1)]
  refine (g95 x b h.term T2 (x02.wf w1)).callL fun T3 x3=>?_
  have u1:aM none (.ptr T.next 0 0 (0+0)) T3=.ok (.int .i64 x.term):=by rw [hv _ x3];rfl
  simp only [fO,aF]
  refine OkL.pick (fun c=>OkL.stop false ⟨false,?_,rfl,x02.trans x3⟩ (by intros;rfl)) (fun c=>?_)
  ·unfold rN;rw [if_neg (by simpa using c)]
  ·simp only [sV,aJ,aF,u1,cG,hw]
   exact OkL.next ⟨x.term,by unfold rN;rw [if_pos (by simpa using c)],rfl,x02.trans x3⟩
 ·rintro b vs T ⟨rfl,xt⟩
  have hlt:¬ (h.log.length:Int)<(h.log.length:Int):=by omega
  refine ⟨true,⟨rfl,xt⟩,fun k K aK=>?_⟩
  simp only [aBi,bH,bK,aF,hlt,decide_false,aU]
theorem g33 (h:Hard) (lv:V) (S:St) (w:WF S) (hs:Sl S 3 lv (h.log.map bV)) (hl:h.log.length≤1000000):xM 33 [.agg (bB h lv)] S (.bool (fX h)):=by
 refine e33 ?_
 have ho:=eP h hs.one
 have hln:(bB h lv).length=7:=rfl
 obtain ⟨S1,hn1,x1,hg1,hnx1⟩:=nb w 7 (bB h lv)
 have w1:=x1.wf w
 have va:aM (some 7) (.ptr S.next 0 0 0) S1=.ok (.agg (bB h lv)):=by rw [aX _ _ _ _ _ (aR hg1)];exact dV _ _ hln
 simp only [m33,bL,ho,hln,aP,hn1,aF,yQ,va]
 refine (g67 h lv S1 w1 (hs.ext x1) hl).call fun S2 x2=>?_
 have g2:=x2.old _ _ hg1
 have v2:aM none (.ptr S.next 0 0 (0+2)) S2=.ok (.int .i64 h.base):=by rw [aX _ _ _ _ _ (aR g2)];rfl
 have v5:aM none (.ptr S.next 0 0 (0+5)) S2=.ok (.str h.snap):=by rw [aX _ _ _ _ _ (aR g2)];rfl
 have hl9:dI prog 9 (.str h.snap) S2=.ok (.int .i64 h.snap.length):=sN (by kernel_rfl) _ _
 have x02:=x1.trans x2
 refine Ok.pick (fun c=>?_) (fun c=>Ok.ret ⟨by unfold fX;rw [c];rfl,x02⟩)
 simp only [fP,pR,aJ,aF,eQ,ld9,v2,v5,hl9,iW,bF,lC,aP,uU,aDx,cK,tC,fT]
 have hiff:(decide (h.snap=[]) == decide (h.base=0))=decide (h.snap=[]↔h.base=0):=by
  by_cases e:h.snap=[]<;>by_cases e2:h.base=0<;>simp [e,e2]
 rw [hiff]
 refine Ok.pickP (fun c2=>Ok.ret ⟨?_,x02⟩) (fun c2=>Ok.ret ⟨by unfold fX;rw [c,decide_eq_false c2];rfl,x02⟩)
 unfold fX
 rw [c,decide_eq_true c2]
 congr 1
 simp only [Bool.true_and,decide_eq_decide]
 omega
section
theorem cD (m:Letter) {ev:V} (h:ev.one=true):aH (aG m ev)=true:=by
 simp only [aG,aH,List.all_cons,List.all_nil,h,Bool.and_true]
 rfl
section
variable {S:St} {a:Nat} {m:Letter} {ev:V} (h:S.heap.get a=some (.row 0 13 [aG m ev]))
include h
theorem xO:aM none (.ptr a 0 0 (0+0)) S=.ok (.int .i64 m.kind):=by rw [aX _ _ _ _ _ (aR h)];rfl
theorem dG:aM none (.ptr a 0 0 (0+1)) S=.ok (.int .i64 m.from'):=by rw [aX _ _ _ _ _ (aR h)];rfl
theorem aQ9:aM none (.ptr a 0 0 (0+2)) S=.ok (.int .i64 m.to):=by rw [aX _ _ _ _ _ (aR h)];rfl
theorem xP:aM none (.ptr a 0 0 (0+3)) S=.ok (.int .i64 m.term):=by rw [aX _ _ _ _ _ (aR h)];rfl
theorem bW:aM none (.ptr a 0 0 (0+4)) S=.ok (.int .i64 m.index):=by rw [aX _ _ _ _ _ (aR h)];rfl
theorem oB:aM none (.ptr a 0 0 (0+5)) S=.ok (.int .i64 m.at'):=by rw [aX _ _ _ _ _ (aR h)];rfl
theorem nB:aM none (.ptr a 0 0 (0+6)) S=.ok (.int .i64 m.commit):=by rw [aX _ _ _ _ _ (aR h)];rfl
theorem gW:aM none (.ptr a 0 0 (0+7)) S=.ok (.int .i64 m.members):=by rw [aX _ _ _ _ _ (aR h)];rfl
theorem rO:aM none (.ptr a 0 0 (0+8)) S=.ok (.int .i64 m.off):=by rw [aX _ _ _ _ _ (aR h)];rfl
theorem nC:aM none (.ptr a 0 0 (0+9)) S=.ok (.int .i64 m.size):=by rw [aX _ _ _ _ _ (aR h)];rfl
theorem aDy:aM none (.ptr a 0 0 (0+10)) S=.ok (.bool m.yes):=by rw [aX _ _ _ _ _ (aR h)];rfl
theorem xQ:aM none (.ptr a 0 0 (0+11)) S=.ok (.str m.data):=by rw [aX _ _ _ _ _ (aR h)];rfl
theorem tD:aM none (.ptr a 0 0 (0+12)) S=.ok ev:=by rw [aX _ _ _ _ _ (aR h)];rfl
theorem rP:aM (some 13) (.ptr a 0 0 0) S=.ok (.agg (aG m ev)):=by rw [aX _ _ _ _ _ (aR h)];exact dV _ _ rfl
end
theorem aKu (a b:Bool):(a == b)=decide (a=b):=by cases a<;>cases b<;>rfl
theorem aKv (a b:List UInt8):(a == b)=decide (a=b):=by
 by_cases h:a=b
 ·subst h;simp
 ·simp [h]
theorem aIn (m n:Letter) (u v:V) (S:St) (w:WF S) (hu:Sl S 3 u (m.entries.map bV)) (hv:Sl S 3 v (n.entries.map bV)):xM 107 [.agg (aG m u),.agg (aG n v)] S (.bool (oP m n)):=by
 refine aUv ?_
 have ho:=cD m hu.one
 have ho2:=cD n hv.one
 have hln:(aG m u).length=13:=rfl
 have hln2:(aG n v).length=13:=rfl
 obtain ⟨S1,hn1,x1,hg1,hnx1⟩:=nb w 13 (aG m u)
 obtain ⟨S2,hn2,x2,hg2,hnx2⟩:=nb (x1.wf w) 13 (aG n v)
 have x02:=x1.trans x2
 have g1:=x2.old _ _ hg1
 simp only [aMn,bL,ho,ho2,hln,hln2,aP,hn1,hn2,aF,rJ,dF,jJ,aBn,aBo,pT,xB,uW,uX,aJ,oA,eQ,ld4,ld9,tD g1,tD hg2,bW g1,bW hg2,oB g1,oB hg2,nB g1,nB hg2,gW g1,gW hg2,rO g1,rO hg2,nC g1,nC hg2,aDy g1,aDy hg2,xQ g1,xQ hg2,
  rK,(hu.ext x02).lenI,(hv.ext x02).lenI,bF,lC,iW,eX,cK,tC,uU,aKu,aKv]
 unfold oP
 refine Ok.pickN (fun c=>Ok.ret ⟨by rw [decide_eq_false (by omega)];rfl,x02⟩) fun c=>?_
 rw [decide_eq_true (by omega:m.entries.length=n.entries.length)]
 refine Ok.pickP (fun c=>?_) (fun c=>Ok.ret ⟨by rw [decide_eq_false c];rfl,x02⟩)
 rw [decide_eq_true c]
 refine Ok.pickP (fun c=>?_) (fun c=>Ok.ret ⟨by rw [decide_eq_false c];rfl,x02⟩)
 rw [decide_eq_true c]
 refine Ok.pickP (fun c=>?_) (fun c=>Ok.ret ⟨by rw [decide_eq_false c];rfl,x02⟩)
 rw [decide_eq_true c]
 refine Ok.pickP (fun c=>?_) (fun c=>Ok.ret ⟨by rw [decide_eq_false c];rfl,x02⟩)
 rw [decide_eq_true c]
 refine Ok.pickP (fun c=>?_) (fun c=>Ok.ret ⟨by rw [decide_eq_false c];rfl,x02⟩)
 rw [decide_eq_true c]
 refine Ok.pickP (fun c=>?_) (fun c=>Ok.ret ⟨by rw [decide_eq_false c];rfl,x02⟩)
 rw [decide_eq_true c]
 refine Ok.pickP (fun c=>?_) (fun c=>Ok.ret ⟨by rw [decide_eq_false c];rfl,x02⟩)
 rw [decide_eq_true c]
 exact Ok.ret ⟨rfl,x02⟩
end
theorem aV3 (m:Letter) (u:V) (S:St) (w:WF S) (hu:Sl S 3 u (m.entries.map bV)):xM 102 [.agg (aG m u)] S (.bool (mX m)):=by
 refine aUq ?_
 have ho:=cD m hu.one
 have hln:(aG m u).length=13:=rfl
 obtain ⟨S1,hn1,x1,g1,hnx1⟩:=nb w 13 (aG m u)
 have w1:=x1.wf w
 have hu1:=hu.ext x1
 obtain ⟨z,hz⟩:∃ z:List V,z=[.int .i64 0,.int .i64 0,.int .i64 0,.int .i64 0,.int .i64 0,.int .i64 0,.int .i64 0,.int .i64 0,.int .i64 0,.int .i64 0,.bool false,.str [],.nils]:=⟨_,rfl⟩
 have b1:∀ a b:Int,dB [.int .i64 0,.int .i64 0,.int .i64 0,.int .i64 0,.int .i64 0,.int .i64 0,.int .i64 0,.int .i64 0,.int .i64 0,.int .i64 0,.bool false,.str [],.nils] [(0,1),(1,1),(2,1),(3,1),(4,1),(5,1),(6,1),(7,1),(8,1),(9,1),(10,1),(11,1),(12,1)] [(4,.int .i64 a),(5,.int .i64 b)]=.ok (.agg (aG { Letter.zero with index:=a,at':=b } .nils)):=fun _ _=>rfl
 have b2:∀ y:Bool,dB [.int .i64 0,.int .i64 0,.int .i64 0,.int .i64 0,.int .i64 0,.int .i64 0,.int .i64 0,.int .i64 0,.int .i64 0,.int .i64 0,.bool false,.str [],.nils] [(0,1),(1,1),(2,1),(3,1),(4,1),(5,1),(6,1),(7,1),(8,1),(9,1),(10,1),(11,1),(12,1)] [(10,.bool y)]=.ok (.agg (aG { Letter.zero with yes:=y } .nils)):=fun _=>rfl
 have b4:∀ (y:Bool) (a:Int),dB [.int .i64 0,.int .i64 0,.int .i64 0,.int .i64 0,.int .i64 0,.int .i64 0,.int .i64 0,.int .i64 0,.int .i64 0,.int .i64 0,.bool false,.str [],.nils] [(0,1),(1,1),(2,1),(3,1),(4,1),(5,1),(6,1),(7,1),(8,1),(9,1),(10,1),(11,1),(12,1)] [(10,.bool y),(4,.int .i64 a)]=.ok (.agg (aG { Letter.zero with yes:=y,index:=a } .nils)):=fun _ _=>rfl
 have b5:∀ (a b c d e:Int) (s:List UInt8),dB [.int .i64 0,.int .i64 0,.int .i64 0,.int .i64 0,.int .i64 0,.int .i64 0,.int .i64 0,.int .i64 0,.int .i64 0,.int .i64 0,.bool false,.str [],.nils] [(0,1),(1,1),(2,1),(3,1),(4,1),(5,1),(6,1),(7,1),(8,1),(9,1),(10,1),(11,1),(12,1)] [(4,.int .i64 a),(5,.int .i64 b),(7,.int .i64 c),(8,.int .i64 d),(9,.int .i64 e),(11,.str s)]=.ok (.agg (aG { Letter.zero with index:=a,at':=b,members:=c,off:=d,size:=e,data:=s } .nils)):=fun _ _ _ _ _ _=>rfl
 have b6:∀ (a b:Int),dB [.int .i64 0,.int .i64 0,.int .i64 0,.int .i64 0,.int .i64 0,.int .i64 0,.int .i64 0,.int .i64 0,.int .i64 0,.int .i64 0,.bool false,.str [],.nils] [(0,1),(1,1),(2,1),(3,1),(4,1),(5,1),(6,1),(7,1),(8,1),(9,1),(10,1),(11,1),(12,1)] [(4,.int .i64 a),(8,.int .i64 b)]=.ok (.agg (aG { Letter.zero with index:=a,off:=b } .nils)):=fun _ _=>rfl
 have b3:dB [.int .i64 0,.int .i64 0,.int .i64 0,.int .i64 0,.int .i64 0,.int .i64 0,.int .i64 0,.int .i64 0,.int .i64 0,.int .i64 0,.bool false,.str [],.nils] [(0,1),(1,1),(2,1),(3,1),(4,1),(5,1),(6,1),(7,1),(8,1),(9,1),(10,1),(11,1),(12,1)] [(4,.int .i64 m.index),(5,.int .i64 m.at'),(12,u),(6,.int .i64 m.commit)]=.ok (.agg (aG { Letter.zero with index:=m.index,at':=m.at',entries:=m.entries,commit:=m.commit } u)):=by
  rcases hu.is with ⟨e,_⟩ | e | ⟨a,ver,off,el,e,_⟩<;>(rw [e];rfl)
 simp only [aMd,bL,ho,hln,aP,hn1,aF,pS,dF,jJ,aBn,aBo,pT,xB,uW,uX,rJ,aJ,eQ,ld4,ld9,oA,xF,xO g1,rP g1,bW g1,oB g1,nB g1,gW g1,rO g1,nC g1,aDy g1,xQ g1,tD g1,bF,cK,rI,b1,b2,b3,b4,b5,b6]
 unfold mX
 refine Ok.pickP (fun c=>?_) (fun c1=>?_)
 ·rw [if_pos c];exact (aIn m _ u _ S1 w1 hu1 (Sl.nilv _ _)).call fun S2 x2=>Ok.ret ⟨rfl,x1.trans x2⟩
 rw [if_neg c1]
 refine Ok.pickP (fun c=>?_) (fun c2=>?_)
 ·rw [if_pos c];exact (aIn m _ u _ S1 w1 hu1 (Sl.nilv _ _)).call fun S2 x2=>Ok.ret ⟨rfl,x1.trans x2⟩
 rw [if_neg c2]
 refine Ok.pickP (fun c=>?_) (fun c3=>?_)
 ·rw [if_pos c];exact (aIn m { Letter.zero with index:=m.index,at':=m.at',entries:=m.entries,commit:=m.commit } u u S1 w1 hu1 hu1).call fun S2 x2=>Ok.ret ⟨rfl,x1.trans x2⟩
 rw [if_neg c3]
 refine Ok.pickP (fun c=>?_) (fun c4=>?_)
 ·rw [if_pos c];exact (aIn m _ u _ S1 w1 hu1 (Sl.nilv _ _)).call fun S2 x2=>Ok.ret ⟨rfl,x1.trans x2⟩
 rw [if_neg c4]
 refine Ok.pickP (fun c=>?_) (fun c5=>?_)
 ·rw [if_pos c];exact (aIn m _ u _ S1 w1 hu1 (Sl.nilv _ _)).call fun S2 x2=>Ok.ret ⟨rfl,x1.trans x2⟩
 rw [if_neg c5]
 refine Ok.pickP (fun c=>?_) (fun c6=>?_)
 ·rw [if_pos c];exact (aIn m _ u _ S1 w1 hu1 (Sl.nilv _ _)).call fun S2 x2=>Ok.ret ⟨rfl,x1.trans x2⟩
 rw [if_neg c6]
 exact Ok.ret ⟨rfl,x1⟩
end Go.Proofs.Ytbiidlmhadihlaa
end
section
namespace Go.Raft
open Go.AM
set_option linter.unusedVariables false
set_option linter.unusedSectionVars false
set_option linter.unusedSimpArgs false
set_option maxRecDepth 100000
variable [Guard]
theorem kN {α:Type} {l:List α} (h:l.length=7):∃ a b c d e f g,l=[a,b,c,d,e,f,g]:=by
 match l,h with
 | [a,b,c,d,e,f,g],_=>exact ⟨a,b,c,d,e,f,g,rfl⟩
theorem cU (c:Core) (lv wv ov:V) (h:c.peers.length=7):(bI c lv wv ov).length=37:=by
 obtain ⟨p0,p1,p2,p3,p4,p5,p6,e⟩:=kN h
 simp only [bI,e];rfl
theorem lJ (c:Core) (lv wv ov:V) (h:c.peers.length=7) {f:Nat} (hf:f<7):
  (bI c lv wv ov)[14+f*3]?=some (.int .i64 (c.peers.getD f ⟨0,0,0⟩).next)∧(bI c lv wv ov)[14+f*3+1]?=some (.int .i64 (c.peers.getD f ⟨0,0,0⟩).mtch)∧(bI c lv wv ov)[14+f*3+2]?=some (.int .i64 (c.peers.getD f ⟨0,0,0⟩).off) ∧
  ((bI c lv wv ov).drop (14+f*3)).take 3=iD (c.peers.getD f ⟨0,0,0⟩):=by
 obtain ⟨p0,p1,p2,p3,p4,p5,p6,e⟩:=kN h
 simp only [bI,e]
 match f,hf with
 | 0,_=>exact ⟨rfl,rfl,rfl,rfl⟩
 | 1,_=>exact ⟨rfl,rfl,rfl,rfl⟩
 | 2,_=>exact ⟨rfl,rfl,rfl,rfl⟩
 | 3,_=>exact ⟨rfl,rfl,rfl,rfl⟩
 | 4,_=>exact ⟨rfl,rfl,rfl,rfl⟩
 | 5,_=>exact ⟨rfl,rfl,rfl,rfl⟩
 | 6,_=>exact ⟨rfl,rfl,rfl,rfl⟩
theorem nS (c:Core) (lv wv ov:V) (h:c.peers.length=7) {f:Nat} (hf:f<7) (q:Peer) (x:Int):
  splice (bI c lv wv ov) (14+f*3) (iD q)=bI { c with peers:=c.peers.set f q } lv wv ov ∧
  splice (bI c lv wv ov) (14+f*3) [.int .i64 x]=bI { c with peers:=c.peers.set f { c.peers.getD f ⟨0,0,0⟩ with next:=x } } lv wv ov ∧
  splice (bI c lv wv ov) (14+f*3+1) [.int .i64 x]=bI { c with peers:=c.peers.set f { c.peers.getD f ⟨0,0,0⟩ with mtch:=x } } lv wv ov ∧
  splice (bI c lv wv ov) (14+f*3+2) [.int .i64 x]=bI { c with peers:=c.peers.set f { c.peers.getD f ⟨0,0,0⟩ with off:=x } } lv wv ov:=by
 obtain ⟨p0,p1,p2,p3,p4,p5,p6,e⟩:=kN h
 simp only [bI,e]
 match f,hf with
 | 0,_=>exact ⟨rfl,rfl,rfl,rfl⟩
 | 1,_=>exact ⟨rfl,rfl,rfl,rfl⟩
 | 2,_=>exact ⟨rfl,rfl,rfl,rfl⟩
 | 3,_=>exact ⟨rfl,rfl,rfl,rfl⟩
 | 4,_=>exact ⟨rfl,rfl,rfl,rfl⟩
 | 5,_=>exact ⟨rfl,rfl,rfl,rfl⟩
 | 6,_=>exact ⟨rfl,rfl,rfl,rfl⟩
theorem nT (c:Core) (lv wv ov:V) (h:c.peers.length=7) (u:V):
  (bI c lv wv ov)[35]?=some wv∧(bI c lv wv ov)[36]?=some ov∧splice (bI c lv wv ov) 35 [u]=bI c lv u ov∧splice (bI c lv wv ov) 36 [u]=bI c lv wv u:=by
 obtain ⟨p0,p1,p2,p3,p4,p5,p6,e⟩:=kN h
 simp only [bI,e]
 exact ⟨rfl,rfl,rfl,rfl⟩
theorem aFn (c:Core) (lv wv ov:V):((bI c lv wv ov).drop 1).take 7=bB c.h lv:=by
 simp only [bI,bB];rfl
theorem uM (c:Core) (lv wv ov:V) (h:c.peers.length=7):((bI c lv wv ov).drop 14).take 21=(c.peers.map iD).flatten:=by
 obtain ⟨p0,p1,p2,p3,p4,p5,p6,e⟩:=kN h
 simp only [bI,e];rfl
end Go.Raft
namespace Go.AM
def aiT (P:Program) (t:TypeId):Option (Nat×Nat):=match P.underlying t with
 | some (.array n e)=>(match (P.underlying e).isSome with
  | true=>some (n,sz P e)
  | false=>none)
 | _=>none
def aDz (n w:Nat) (x ix:V):R V:=match iY ix n with
 | none=>.error "index"
 | some k=>match x with
  | .ptr a ver i j=>.ok (.ptr a ver i (j+k*w))
  | .iptr cs j=>.ok (.iptr cs (j+k*w))
  | _=>.error "indexAddr"
theorem xR {P:Program} {t:TypeId} {n w:Nat} (h:aiT P t=some (n,w)) (x ix:V):bA P t x ix=aDz n w x ix:=by
 unfold aiT at h
 unfold bA aDz
 split at h
 ·rename_i n' e he
  split at h
  ·rename_i hs
   cases h
   rw [he]
   simp only [hs,Bool.not_true,cond_false]
   rfl
  ·cases h
 ·cases h
theorem nD {n w a ver i j:Nat} {k:Nat} (hk:k<n) (q:IntKind):aDz n w (.ptr a ver i j) (.int q (k:Int))=.ok (.ptr a ver i (j+k*w)):=by
 simp only [aDz,mR hk]
end Go.AM
end
section
namespace Go.Raft
open Go.AM
section
variable [Guard]
theorem aS (k:Option Nat) (p:V) (n:Nat) (S:St):aM k p (⟨n,S.heap⟩:St)=aM k p S:=rfl
section
variable {S:St} {a:Nat} {c:Core} {lv wv dv ov:V} {rows:List (List V)} (h:CoreAt S a c lv wv dv ov rows)
include h
theorem CoreAt.r_id:aM none (.ptr a 0 0 0) S=.ok (.int .i64 c.id):=h.ld 0 rfl
theorem CoreAt.r_term:aM none (.ptr a 0 0 1) S=.ok (.int .i64 c.h.term):=h.ld 1 rfl
theorem CoreAt.r_vote:aM none (.ptr a 0 0 2) S=.ok (.int .i64 c.h.vote):=h.ld 2 rfl
theorem CoreAt.r_base:aM none (.ptr a 0 0 3) S=.ok (.int .i64 c.h.base):=h.ld 3 rfl
theorem CoreAt.r_baseTerm:aM none (.ptr a 0 0 4) S=.ok (.int .i64 c.h.baseTerm):=h.ld 4 rfl
theorem CoreAt.r_mem:aM none (.ptr a 0 0 5) S=.ok (.int .i64 c.h.members):=h.ld 5 rfl
theorem CoreAt.r_snap:aM none (.ptr a 0 0 6) S=.ok (.str c.h.snap):=h.ld 6 rfl
theorem CoreAt.r_log:aM none (.ptr a 0 0 7) S=.ok lv:=h.ld 7 rfl
theorem CoreAt.r_role:aM none (.ptr a 0 0 8) S=.ok (.int .i64 c.role):=h.ld 8 rfl
theorem CoreAt.r_leads:aM none (.ptr a 0 0 9) S=.ok (.int .i64 c.leads):=h.ld 9 rfl
theorem CoreAt.r_sure:aM none (.ptr a 0 0 10) S=.ok (.int .i64 c.sure):=h.ld 10 rfl
theorem CoreAt.r_drawn:aM none (.ptr a 0 0 11) S=.ok (.int .i64 c.drawn):=h.ld 11 rfl
theorem CoreAt.r_left:aM none (.ptr a 0 0 12) S=.ok (.int .i64 c.left):=h.ld 12 rfl
theorem CoreAt.r_votes:aM none (.ptr a 0 0 13) S=.ok (.int .i64 c.votes):=h.ld 13 rfl
theorem CoreAt.r_way:aM none (.ptr a 0 0 35) S=.ok wv:=h.ld 35 (nT c lv wv ov h.peers .nils).1
theorem CoreAt.r_out:aM none (.ptr a 0 0 36) S=.ok ov:=h.ld 36 (nT c lv wv ov h.peers .nils).2.1
theorem CoreAt.r_hard:aM (some 7) (.ptr a 0 0 1) S=.ok (.agg (bB c.h lv)):=by
 have hl:=cU c lv wv ov h.peers
 rw [aX _ _ _ _ _ (aR h.cell),eS]
 rw [if_pos (by omega),aFn]
theorem CoreAt.r_peers:aM (some 21) (.ptr a 0 0 14) S=.ok (.agg (c.peers.map iD).flatten):=by
 have hl:=cU c lv wv ov h.peers
 rw [aX _ _ _ _ _ (aR h.cell),eS]
 rw [if_pos (by omega),uM c lv wv ov h.peers]
theorem CoreAt.r_next {f:Nat} (hf:f<7):aM none (.ptr a 0 0 (14+f*3)) S=.ok (.int .i64 (c.peers.getD f ⟨0,0,0⟩).next):=h.ld _ (lJ c lv wv ov h.peers hf).1
theorem CoreAt.r_mtch {f:Nat} (hf:f<7):aM none (.ptr a 0 0 (14+f*3+1)) S=.ok (.int .i64 (c.peers.getD f ⟨0,0,0⟩).mtch):=h.ld _ (lJ c lv wv ov h.peers hf).2.1
theorem CoreAt.r_off {f:Nat} (hf:f<7):aM none (.ptr a 0 0 (14+f*3+2)) S=.ok (.int .i64 (c.peers.getD f ⟨0,0,0⟩).off):=h.ld _ (lJ c lv wv ov h.peers hf).2.2.1
theorem CoreAt.r_peer {f:Nat} (hf:f<7):aM (some 3) (.ptr a 0 0 (14+f*3)) S=.ok (.agg (iD (c.peers.getD f ⟨0,0,0⟩))):=by
 have hl:=cU c lv wv ov h.peers
 rw [aX _ _ _ _ _ (aR h.cell),eS]
 rw [if_pos (by omega),(lJ c lv wv ov h.peers hf).2.2.2]
theorem CoreAt.set (w:WF S) (k:Nat) (x:Int) (c':Core) (hk:k<14) (hc:splice (bI c lv wv ov) k [.int .i64 x]=bI c' lv wv ov) (h1:c'.h.log=c.h.log) (h2:c'.way=c.way) (h3:c'.out=c.out) (h4:c'.peers.length=7):
  ∃ S',bG 1 (.ptr a 0 0 k) (.int .i64 x) S=.ok S'∧CoreAt S' a c' lv wv dv ov rows∧Mv (own a lv wv dv ov) S (own a lv wv dv ov) S'∧S'.next=S.next:=
 h.st w k _ c' rfl rfl (by rw [cU c lv wv ov h.peers];omega) hc h1 h2 h3 h4
theorem CoreAt.w_term (w:WF S) (x:Int):∃ S',bG 1 (.ptr a 0 0 1) (.int .i64 x) S=.ok S'∧CoreAt S' a { c with h:={ c.h with term:=x } } lv wv dv ov rows∧Mv (own a lv wv dv ov) S (own a lv wv dv ov) S'∧S'.next=S.next:=h.set w 1 x _ (by decide) rfl rfl rfl rfl h.peers
theorem CoreAt.w_vote (w:WF S) (x:Int):∃ S',bG 1 (.ptr a 0 0 2) (.int .i64 x) S=.ok S'∧CoreAt S' a { c with h:={ c.h with vote:=x } } lv wv dv ov rows∧Mv (own a lv wv dv ov) S (own a lv wv dv ov) S'∧S'.next=S.next:=h.set w 2 x _ (by decide) rfl rfl rfl rfl h.peers
theorem CoreAt.w_role (w:WF S) (x:Int):∃ S',bG 1 (.ptr a 0 0 8) (.int .i64 x) S=.ok S'∧CoreAt S' a { c with role:=x } lv wv dv ov rows∧Mv (own a lv wv dv ov) S (own a lv wv dv ov) S'∧S'.next=S.next:=h.set w 8 x _ (by decide) rfl rfl rfl rfl h.peers
theorem CoreAt.w_leads (w:WF S) (x:Int):∃ S',bG 1 (.ptr a 0 0 9) (.int .i64 x) S=.ok S'∧CoreAt S' a { c with leads:=x } lv wv dv ov rows∧Mv (own a lv wv dv ov) S (own a lv wv dv ov) S'∧S'.next=S.next:=h.set w 9 x _ (by decide) rfl rfl rfl rfl h.peers
theorem CoreAt.w_sure (w:WF S) (x:Int):∃ S',bG 1 (.ptr a 0 0 10) (.int .i64 x) S=.ok S'∧CoreAt S' a { c with sure:=x } lv wv dv ov rows∧Mv (own a lv wv dv ov) S (own a lv wv dv ov) S'∧S'.next=S.next:=h.set w 10 x _ (by decide) rfl rfl rfl rfl h.peers
theorem CoreAt.w_drawn (w:WF S) (x:Int):∃ S',bG 1 (.ptr a 0 0 11) (.int .i64 x) S=.ok S'∧CoreAt S' a { c with drawn:=x } lv wv dv ov rows∧Mv (own a lv wv dv ov) S (own a lv wv dv ov) S'∧S'.next=S.next:=h.set w 11 x _ (by decide) rfl rfl rfl rfl h.peers
theorem CoreAt.w_left (w:WF S) (x:Int):∃ S',bG 1 (.ptr a 0 0 12) (.int .i64 x) S=.ok S'∧CoreAt S' a { c with left:=x } lv wv dv ov rows∧Mv (own a lv wv dv ov) S (own a lv wv dv ov) S'∧S'.next=S.next:=h.set w 12 x _ (by decide) rfl rfl rfl rfl h.peers
theorem CoreAt.w_votes (w:WF S) (x:Int):∃ S',bG 1 (.ptr a 0 0 13) (.int .i64 x) S=.ok S'∧CoreAt S' a { c with votes:=x } lv wv dv ov rows∧Mv (own a lv wv dv ov) S (own a lv wv dv ov) S'∧S'.next=S.next:=h.set w 13 x _ (by decide) rfl rfl rfl rfl h.peers
theorem CoreAt.w_peer (w:WF S) {f:Nat} (hf:f<7) (p:Peer):∃ S',bG 3 (.ptr a 0 0 (14+f*3)) (.agg (iD p)) S=.ok S'∧CoreAt S' a { c with peers:=c.peers.set f p } lv wv dv ov rows∧Mv (own a lv wv dv ov) S (own a lv wv dv ov) S'∧S'.next=S.next:=by
 have hl:=cU c lv wv ov h.peers
 have e:=dE (x:=.agg (iD p)) (j:=14+f*3) (m:=3) h.cell rfl rfl (by omega)
 rw [bL,(nS c lv wv ov h.peers hf p 0).1] at e
 have hp:({ c with peers:=c.peers.set f p }:Core).peers.length=7:=by show (c.peers.set f p).length=7;rw [List.length_set];exact h.peers
 exact ⟨_,e,(h.put w { c with peers:=c.peers.set f p } rfl rfl rfl hp).1,(h.put w { c with peers:=c.peers.set f p } rfl rfl rfl hp).2,rfl⟩
theorem CoreAt.w_next (w:WF S) {f:Nat} (hf:f<7) (x:Int):∃ S',bG 1 (.ptr a 0 0 (14+f*3)) (.int .i64 x) S=.ok S'∧CoreAt S' a { c with peers:=c.peers.set f { c.peers.getD f ⟨0,0,0⟩ with next:=x } } lv wv dv ov rows∧Mv (own a lv wv dv ov) S (own a lv wv dv ov) S'∧S'.next=S.next:=
 h.st w _ _ _ rfl rfl (by rw [cU c lv wv ov h.peers];omega) (nS c lv wv ov h.peers hf ⟨0,0,0⟩ x).2.1 rfl rfl rfl (by show (c.peers.set f _).length=7;rw [List.length_set];exact h.peers)
theorem CoreAt.w_mtch (w:WF S) {f:Nat} (hf:f<7) (x:Int):∃ S',bG 1 (.ptr a 0 0 (14+f*3+1)) (.int .i64 x) S=.ok S'∧CoreAt S' a { c with peers:=c.peers.set f { c.peers.getD f ⟨0,0,0⟩ with mtch:=x } } lv wv dv ov rows∧Mv (own a lv wv dv ov) S (own a lv wv dv ov) S'∧S'.next=S.next:=
 h.st w _ _ _ rfl rfl (by rw [cU c lv wv ov h.peers];omega) (nS c lv wv ov h.peers hf ⟨0,0,0⟩ x).2.2.1 rfl rfl rfl (by show (c.peers.set f _).length=7;rw [List.length_set];exact h.peers)
theorem CoreAt.w_off (w:WF S) {f:Nat} (hf:f<7) (x:Int):∃ S',bG 1 (.ptr a 0 0 (14+f*3+2)) (.int .i64 x) S=.ok S'∧CoreAt S' a { c with peers:=c.peers.set f { c.peers.getD f ⟨0,0,0⟩ with off:=x } } lv wv dv ov rows∧Mv (own a lv wv dv ov) S (own a lv wv dv ov) S'∧S'.next=S.next:=
 h.st w _ _ _ rfl rfl (by rw [cU c lv wv ov h.peers];omega) (nS c lv wv ov h.peers hf ⟨0,0,0⟩ x).2.2.2 rfl rfl rfl (by show (c.peers.set f _).length=7;rw [List.length_set];exact h.peers)
end
end
end Go.Raft
end
