import Derived.KernelRfl
import Derived.Test.YtoaibmbldmckaaaGreatProg
import Derived.Test.YtoaibmbldmckaaaGreatX2
set_option linter.unusedSimpArgs false
set_option linter.unusedVariables false
set_option linter.unusedSectionVars false
set_option maxRecDepth 100000
section
namespace Go.Proofs.YtoaibmbldmckaaaGreat
open Go.AM Tryz
theorem aZi (s x:V) (fr:Option Nat) (S:St):aW prog 102 s x fr S=dK 23 224 s x fr S:=dE (by kernel_rfl) s x fr S
theorem bC8 (s x:V) (fr:Option Nat) (S:St):aW prog 22 s x fr S=dK 1 1 s x fr S:=dE (by kernel_rfl) s x fr S
theorem bC9 (s x:V) (fr:Option Nat) (S:St):aW prog 24 s x fr S=dK 5 48 s x fr S:=dE (by kernel_rfl) s x fr S
theorem bCa (s x:V) (fr:Option Nat) (S:St):aW prog 25 s x fr S=dK 4 40 s x fr S:=dE (by kernel_rfl) s x fr S
theorem bCb (s x:V) (fr:Option Nat) (S:St):aW prog 26 s x fr S=dK 12 128 s x fr S:=dE (by kernel_rfl) s x fr S
theorem bCc (s x:V) (fr:Option Nat) (S:St):aW prog 27 s x fr S=dK 2 24 s x fr S:=dE (by kernel_rfl) s x fr S
theorem bCd (s x:V) (fr:Option Nat) (S:St):aW prog 28 s x fr S=dK 5 40 s x fr S:=dE (by kernel_rfl) s x fr S
theorem bCe (s x:V) (fr:Option Nat) (S:St):aW prog 44 s x fr S=dK 17 176 s x fr S:=dE (by kernel_rfl) s x fr S
theorem bCf (s x:V) (fr:Option Nat) (S:St):aW prog 55 s x fr S=dK 4 48 s x fr S:=dE (by kernel_rfl) s x fr S
theorem bCg (s x:V) (fr:Option Nat) (S:St):aW prog 62 s x fr S=dK 3 24 s x fr S:=dE (by kernel_rfl) s x fr S
theorem bCh (s x:V) (fr:Option Nat) (S:St):aW prog 71 s x fr S=dK 4 40 s x fr S:=dE (by kernel_rfl) s x fr S
theorem bCi (s x:V) (fr:Option Nat) (S:St):aW prog 80 s x fr S=dK 4 40 s x fr S:=dE (by kernel_rfl) s x fr S
theorem bCj (s x:V) (fr:Option Nat) (S:St):aW prog 96 s x fr S=dK 1 8 s x fr S:=dE (by kernel_rfl) s x fr S
theorem bCk (s x:V) (fr:Option Nat) (S:St):aW prog 97 s x fr S=dK 23 224 s x fr S:=dE (by kernel_rfl) s x fr S
theorem bCl (parts:List (Nat×V)):aP prog 126 parts=bM [.str [],.int .i64 0,.int .i64 0,.bool false] [(0,1),(1,1),(2,1),(3,1)] parts:=bZ (by kernel_rfl) parts
theorem bCm (parts:List (Nat×V)):aP prog 132 parts=bM [.int .i64 0,.int .i64 0,.int .i64 0,.int .i64 0,.int .i64 0] [(0,1),(1,1),(2,3)] parts:=bZ (by kernel_rfl) parts
theorem bCn (parts:List (Nat×V)):aP prog 142 parts=bM [.nils,.int .i64 0,.int .i64 0] [(0,1),(1,1),(2,1)] parts:=bZ (by kernel_rfl) parts
theorem bCo (parts:List (Nat×V)):aP prog 145 parts=bM [.str [],.int .i64 0,.int .i64 0,.int .i64 0] [(0,1),(1,1),(2,1),(3,1)] parts:=bZ (by kernel_rfl) parts
theorem bCp (parts:List (Nat×V)):aP prog 160 parts=bM [.nils] [(0,1)] parts:=bZ (by kernel_rfl) parts
theorem bCq (parts:List (Nat×V)):aP prog 201 parts=bM [.str [],.str [],.int .i64 0,.int .i64 0] [(0,1),(1,1),(2,1),(3,1)] parts:=bZ (by kernel_rfl) parts
theorem bCr (parts:List (Nat×V)):aP prog 207 parts=bM [.int .i64 0,.int .i64 0,.int .i64 0,.str [],.int .i64 0,.str [],.int .i64 0,.int .i64 0,.int .i64 0,.int .i64 0,.int .i64 0,.int .i64 0,.int .i64 0,.nils,.str [],.int .i64 0,.int .i64 0,.int .i64 0,.int .i64 0,.int .i64 0,.int .i64 0,.int .i64 0,.int .i64 0] [(0,17),(17,1),(18,1),(19,1),(20,3)] parts:=bZ (by kernel_rfl) parts
theorem bCs (parts:List (Nat×V)):aP prog 212 parts=bM [.nili] [(0,1)] parts:=bZ (by kernel_rfl) parts
theorem bCt (parts:List (Nat×V)):aP prog 225 parts=bM [.nils,.int .i64 0,.int .i64 0] [(0,1),(1,1),(2,1)] parts:=bZ (by kernel_rfl) parts
theorem bCu (parts:List (Nat×V)):aP prog 287 parts=bM [.nils,.bool false] [(0,1),(1,1)] parts:=bZ (by kernel_rfl) parts
theorem bHl (parts:List (Nat×V)):aP prog 30 parts=bM [.nils,.nils,.nils,.nils,.nils,.int .i64 0] [(0,1),(1,1),(2,1),(3,1),(4,1),(5,1)] parts:=bZ (by kernel_rfl) parts
theorem bCv (parts:List (Nat×V)):aP prog 346 parts=bM [.int .i64 0,.int .u64 0] [(0,1),(1,1)] parts:=bZ (by kernel_rfl) parts
theorem bHm (parts:List (Nat×V)):aP prog 48 parts=bM [.int .i64 0,.int .i64 0,.int .i64 0] [(0,1),(1,1),(2,1)] parts:=bZ (by kernel_rfl) parts
theorem bHn (parts:List (Nat×V)):aP prog 52 parts=bM [.int .i64 0,.int .i64 0,.int .i64 0] [(0,1),(1,1),(2,1)] parts:=bZ (by kernel_rfl) parts
theorem bHo (parts:List (Nat×V)):aP prog 54 parts=bM [.str [],.int .i64 0,.int .i64 0,.int .i64 0,.int .i64 0] [(0,1),(1,3),(4,1)] parts:=bZ (by kernel_rfl) parts
theorem bHp (parts:List (Nat×V)):aP prog 57 parts=bM [.str [],.int .i64 0] [(0,1),(1,1)] parts:=bZ (by kernel_rfl) parts
theorem bHq (parts:List (Nat×V)):aP prog 59 parts=bM [.int .i64 0,.str [],.int .i64 0,.str [],.int .i64 0,.int .i64 0,.int .i64 0,.int .i64 0,.int .i64 0,.int .i64 0,.int .i64 0,.nils,.str [],.int .i64 0,.int .i64 0] [(0,1),(1,1),(2,1),(3,5),(8,3),(11,1),(12,2),(14,1)] parts:=bZ (by kernel_rfl) parts
theorem bHr (parts:List (Nat×V)):aP prog 61 parts=bM [.int .i64 0,.int .i64 0,.int .i64 0,.str [],.int .i64 0,.str [],.int .i64 0,.int .i64 0,.int .i64 0,.int .i64 0,.int .i64 0,.int .i64 0,.int .i64 0,.nils,.str [],.int .i64 0,.int .i64 0] [(0,1),(1,1),(2,15)] parts:=bZ (by kernel_rfl) parts
theorem bHs (parts:List (Nat×V)):aP prog 76 parts=bM [.str [],.int .i64 0,.int .i64 0,.int .i64 0] [(0,1),(1,1),(2,1),(3,1)] parts:=bZ (by kernel_rfl) parts
theorem bHt (parts:List (Nat×V)):aP prog 77 parts=bM [.str [],.int .i64 0,.int .i64 0,.int .i64 0] [(0,1),(1,1),(2,1),(3,1)] parts:=bZ (by kernel_rfl) parts
theorem bHu (parts:List (Nat×V)):aP prog 82 parts=bM [.int .i64 0,.int .i64 0,.int .i64 0,.nils] [(0,1),(1,1),(2,1),(3,1)] parts:=bZ (by kernel_rfl) parts
theorem bHv (parts:List (Nat×V)):aP prog 84 parts=bM [.str [],.int .i64 0,.int .i64 0,.int .i64 0,.int .i64 0,.int .i64 0,.int .i64 0,.int .i64 0,.nils,.str [],.int .i64 0,.bool false] [(0,2),(2,3),(5,4),(9,2),(11,1)] parts:=bZ (by kernel_rfl) parts
theorem bHw (parts:List (Nat×V)):aP prog 90 parts=bM [.str [],.int .i64 0] [(0,1),(1,1)] parts:=bZ (by kernel_rfl) parts
theorem bHx (parts:List (Nat×V)):aP prog 99 parts=bM [.int .i64 0,.int .i64 0,.int .i64 0,.str [],.int .i64 0,.str [],.int .i64 0,.int .i64 0,.int .i64 0,.int .i64 0,.int .i64 0,.int .i64 0,.int .i64 0,.nils,.str [],.int .i64 0,.int .i64 0,.int .i64 0,.int .i64 0,.int .i64 0,.int .i64 0,.int .i64 0,.int .i64 0] [(0,17),(17,1),(18,1),(19,1),(20,3)] parts:=bZ (by kernel_rfl) parts
theorem bCw (len:Nat) (parts:List (Nat×V)) (fr:Option Nat) (S:St):aL prog 102 len parts fr S=aQ 23 [.int .i64 0,.int .i64 0,.int .i64 0,.str [],.int .i64 0,.str [],.int .i64 0,.int .i64 0,.int .i64 0,.int .i64 0,.int .i64 0,.int .i64 0,.int .i64 0,.nils,.str [],.int .i64 0,.int .i64 0,.int .i64 0,.int .i64 0,.int .i64 0,.int .i64 0,.int .i64 0,.int .i64 0] len parts fr S:=bN (by kernel_rfl) len parts fr S
theorem bHy (len:Nat) (parts:List (Nat×V)) (fr:Option Nat) (S:St):aL prog 22 len parts fr S=aQ 1 [.int .u8 0] len parts fr S:=bN (by kernel_rfl) len parts fr S
theorem bHz (len:Nat) (parts:List (Nat×V)) (fr:Option Nat) (S:St):aL prog 24 len parts fr S=aQ 5 [.str [],.int .i64 0,.int .i64 0,.int .i64 0,.int .i64 0] len parts fr S:=bN (by kernel_rfl) len parts fr S
theorem bI0 (len:Nat) (parts:List (Nat×V)) (fr:Option Nat) (S:St):aL prog 25 len parts fr S=aQ 4 [.str [],.int .i64 0,.int .i64 0,.bool false] len parts fr S:=bN (by kernel_rfl) len parts fr S
theorem bI1 (len:Nat) (parts:List (Nat×V)) (fr:Option Nat) (S:St):aL prog 26 len parts fr S=aQ 12 [.str [],.int .i64 0,.int .i64 0,.int .i64 0,.int .i64 0,.int .i64 0,.int .i64 0,.int .i64 0,.nils,.str [],.int .i64 0,.bool false] len parts fr S:=bN (by kernel_rfl) len parts fr S
theorem bI2 (len:Nat) (parts:List (Nat×V)) (fr:Option Nat) (S:St):aL prog 27 len parts fr S=aQ 2 [.str [],.int .i64 0] len parts fr S:=bN (by kernel_rfl) len parts fr S
theorem bI3 (len:Nat) (parts:List (Nat×V)) (fr:Option Nat) (S:St):aL prog 28 len parts fr S=aQ 5 [.int .i64 0,.int .i64 0,.int .i64 0,.int .i64 0,.int .i64 0] len parts fr S:=bN (by kernel_rfl) len parts fr S
theorem bCx (len:Nat) (parts:List (Nat×V)) (fr:Option Nat) (S:St):aL prog 361 len parts fr S=aQ 1 [.nilp] len parts fr S:=bN (by kernel_rfl) len parts fr S
theorem bCy (len:Nat) (parts:List (Nat×V)) (fr:Option Nat) (S:St):aL prog 364 len parts fr S=aQ 1 [.str []] len parts fr S:=bN (by kernel_rfl) len parts fr S
theorem bI4 (len:Nat) (parts:List (Nat×V)) (fr:Option Nat) (S:St):aL prog 44 len parts fr S=aQ 17 [.int .i64 0,.int .i64 0,.int .i64 0,.str [],.int .i64 0,.str [],.int .i64 0,.int .i64 0,.int .i64 0,.int .i64 0,.int .i64 0,.int .i64 0,.int .i64 0,.nils,.str [],.int .i64 0,.int .i64 0] len parts fr S:=bN (by kernel_rfl) len parts fr S
theorem bI5 (len:Nat) (parts:List (Nat×V)) (fr:Option Nat) (S:St):aL prog 55 len parts fr S=aQ 4 [.str [],.str [],.int .i64 0,.int .i64 0] len parts fr S:=bN (by kernel_rfl) len parts fr S
theorem bI6 (len:Nat) (parts:List (Nat×V)) (fr:Option Nat) (S:St):aL prog 62 len parts fr S=aQ 3 [.int .i64 0,.int .i64 0,.int .i64 0] len parts fr S:=bN (by kernel_rfl) len parts fr S
theorem bI7 (len:Nat) (parts:List (Nat×V)) (fr:Option Nat) (S:St):aL prog 68 len parts fr S=aQ 4 [.str [],.int .i64 0,.int .i64 0,.int .i64 0] len parts fr S:=bN (by kernel_rfl) len parts fr S
theorem bI8 (len:Nat) (parts:List (Nat×V)) (fr:Option Nat) (S:St):aL prog 71 len parts fr S=aQ 4 [.str [],.int .i64 0,.int .i64 0,.int .i64 0] len parts fr S:=bN (by kernel_rfl) len parts fr S
theorem bI9 (len:Nat) (parts:List (Nat×V)) (fr:Option Nat) (S:St):aL prog 80 len parts fr S=aQ 4 [.str [],.int .i64 0,.int .i64 0,.int .i64 0] len parts fr S:=bN (by kernel_rfl) len parts fr S
theorem bIa (len:Nat) (parts:List (Nat×V)) (fr:Option Nat) (S:St):aL prog 96 len parts fr S=aQ 1 [.int .i64 0] len parts fr S:=bN (by kernel_rfl) len parts fr S
theorem bIb (len:Nat) (parts:List (Nat×V)) (fr:Option Nat) (S:St):aL prog 97 len parts fr S=aQ 23 [.int .i64 0,.int .i64 0,.int .i64 0,.str [],.int .i64 0,.str [],.int .i64 0,.int .i64 0,.int .i64 0,.int .i64 0,.int .i64 0,.int .i64 0,.int .i64 0,.nils,.str [],.int .i64 0,.int .i64 0,.int .i64 0,.int .i64 0,.int .i64 0,.int .i64 0,.int .i64 0,.int .i64 0] len parts fr S:=bN (by kernel_rfl) len parts fr S
theorem aW5 (j:IntKind) (n:Int) (fr:Option Nat) (S:St):bH prog 229 3 (.int j n) fr S=.ok (.int .i64 (wr .i64 n),S):=kN (by kernel_rfl) j n fr S
theorem aW6 (j:IntKind) (n:Int) (fr:Option Nat) (S:St):bH prog 229 5 (.int j n) fr S=.ok (.int .u8 (wr .u8 n),S):=kN (by kernel_rfl) j n fr S
theorem aW7 (j:IntKind) (n:Int) (fr:Option Nat) (S:St):bH prog 3 229 (.int j n) fr S=.ok (.int .u64 (wr .u64 n),S):=kN (by kernel_rfl) j n fr S
theorem aW8 (j:IntKind) (n:Int) (fr:Option Nat) (S:St):bH prog 3 231 (.int j n) fr S=.ok (.int .u64 (wr .u64 n),S):=kN (by kernel_rfl) j n fr S
theorem aW9 (j:IntKind) (n:Int) (fr:Option Nat) (S:St):bH prog 5 229 (.int j n) fr S=.ok (.int .u64 (wr .u64 n),S):=kN (by kernel_rfl) j n fr S
theorem aZj:(fun (a_0:List UInt8) (a_1:Int) (a_2:Int) (a_3:Bool) (b_0:List UInt8) (b_1:Int) (b_2:Int) (b_3:Bool)=>mI prog 100 126 (.agg [.str a_0,.int .i64 a_1,.int .i64 a_2,.bool a_3]) (.agg [.str b_0,.int .i64 b_1,.int .i64 b_2,.bool b_3]))=fun a_0 a_1 a_2 a_3 b_0 b_1 b_2 b_3=>(fF (.ok (oQ a_0 b_0)) (fF (.ok (decide (a_1=b_1))) (fF (.ok (decide (a_2=b_2))) (fF (.ok (a_3 == b_3)) (.ok true))))):=by kernel_rfl
theorem bCz (a_0:List UInt8) (a_1:Int) (a_2:Int) (a_3:Bool) (b_0:List UInt8) (b_1:Int) (b_2:Int) (b_3:Bool):mI prog 100 126 (.agg [.str a_0,.int .i64 a_1,.int .i64 a_2,.bool a_3]) (.agg [.str b_0,.int .i64 b_1,.int .i64 b_2,.bool b_3])=.ok ((a_0 == b_0)&&decide (a_1=b_1)&&decide (a_2=b_2)&&(a_3 == b_3)):=by
 refine (congrFun (congrFun (congrFun (congrFun (congrFun (congrFun (congrFun (congrFun aZj a_0) a_1) a_2) a_3) b_0) b_1) b_2) b_3).trans ?_
 simp only [iY,dI,Bool.and_true,Bool.and_assoc]
theorem bD0:(fun a b=>aJ prog 126 (.agg a) (.agg b))=fun _ _=>true:=by kernel_rfl
theorem aZk:(fun (a_0:Int) (a_1:Int) (a_2_0:Int) (a_2_1:Int) (a_2_2:Int) (b_0:Int) (b_1:Int) (b_2_0:Int) (b_2_1:Int) (b_2_2:Int)=>mI prog 100 132 (.agg [.int .i64 a_0,.int .i64 a_1,.int .i64 a_2_0,.int .i64 a_2_1,.int .i64 a_2_2]) (.agg [.int .i64 b_0,.int .i64 b_1,.int .i64 b_2_0,.int .i64 b_2_1,.int .i64 b_2_2]))=fun a_0 a_1 a_2_0 a_2_1 a_2_2 b_0 b_1 b_2_0 b_2_1 b_2_2=>(fF (.ok (decide (a_0=b_0))) (fF (.ok (decide (a_1=b_1))) (fF (fF (.ok (decide (a_2_0=b_2_0))) (fF (.ok (decide (a_2_1=b_2_1))) (fF (.ok (decide (a_2_2=b_2_2))) (.ok true)))) (.ok true)))):=by kernel_rfl
theorem bD1 (a_0:Int) (a_1:Int) (a_2_0:Int) (a_2_1:Int) (a_2_2:Int) (b_0:Int) (b_1:Int) (b_2_0:Int) (b_2_1:Int) (b_2_2:Int):mI prog 100 132 (.agg [.int .i64 a_0,.int .i64 a_1,.int .i64 a_2_0,.int .i64 a_2_1,.int .i64 a_2_2]) (.agg [.int .i64 b_0,.int .i64 b_1,.int .i64 b_2_0,.int .i64 b_2_1,.int .i64 b_2_2])=.ok (decide (a_0=b_0)&&decide (a_1=b_1)&&decide (a_2_0=b_2_0)&&decide (a_2_1=b_2_1)&&decide (a_2_2=b_2_2)):=by
 refine (congrFun (congrFun (congrFun (congrFun (congrFun (congrFun (congrFun (congrFun (congrFun (congrFun aZk a_0) a_1) a_2_0) a_2_1) a_2_2) b_0) b_1) b_2_0) b_2_1) b_2_2).trans ?_
 simp only [iY,dI,Bool.and_true,Bool.and_assoc]
theorem bD2:(fun a b=>aJ prog 132 (.agg a) (.agg b))=fun _ _=>true:=by kernel_rfl
theorem aZl:(fun (a_0:List UInt8) (a_1:Int) (a_2:Int) (a_3:Int) (b_0:List UInt8) (b_1:Int) (b_2:Int) (b_3:Int)=>mI prog 100 145 (.agg [.str a_0,.int .i64 a_1,.int .i64 a_2,.int .i64 a_3]) (.agg [.str b_0,.int .i64 b_1,.int .i64 b_2,.int .i64 b_3]))=fun a_0 a_1 a_2 a_3 b_0 b_1 b_2 b_3=>(fF (.ok (oQ a_0 b_0)) (fF (.ok (decide (a_1=b_1))) (fF (.ok (decide (a_2=b_2))) (fF (.ok (decide (a_3=b_3))) (.ok true))))):=by kernel_rfl
theorem bD3 (a_0:List UInt8) (a_1:Int) (a_2:Int) (a_3:Int) (b_0:List UInt8) (b_1:Int) (b_2:Int) (b_3:Int):mI prog 100 145 (.agg [.str a_0,.int .i64 a_1,.int .i64 a_2,.int .i64 a_3]) (.agg [.str b_0,.int .i64 b_1,.int .i64 b_2,.int .i64 b_3])=.ok ((a_0 == b_0)&&decide (a_1=b_1)&&decide (a_2=b_2)&&decide (a_3=b_3)):=by
 refine (congrFun (congrFun (congrFun (congrFun (congrFun (congrFun (congrFun (congrFun aZl a_0) a_1) a_2) a_3) b_0) b_1) b_2) b_3).trans ?_
 simp only [iY,dI,Bool.and_true,Bool.and_assoc]
theorem bD4:(fun a b=>aJ prog 145 (.agg a) (.agg b))=fun _ _=>true:=by kernel_rfl
theorem aZm:(fun (a_0:List UInt8) (a_1:List UInt8) (a_2:Int) (a_3:Int) (b_0:List UInt8) (b_1:List UInt8) (b_2:Int) (b_3:Int)=>mI prog 100 201 (.agg [.str a_0,.str a_1,.int .i64 a_2,.int .i64 a_3]) (.agg [.str b_0,.str b_1,.int .i64 b_2,.int .i64 b_3]))=fun a_0 a_1 a_2 a_3 b_0 b_1 b_2 b_3=>(fF (.ok (oQ a_0 b_0)) (fF (.ok (oQ a_1 b_1)) (fF (.ok (decide (a_2=b_2))) (fF (.ok (decide (a_3=b_3))) (.ok true))))):=by kernel_rfl
theorem bD5 (a_0:List UInt8) (a_1:List UInt8) (a_2:Int) (a_3:Int) (b_0:List UInt8) (b_1:List UInt8) (b_2:Int) (b_3:Int):mI prog 100 201 (.agg [.str a_0,.str a_1,.int .i64 a_2,.int .i64 a_3]) (.agg [.str b_0,.str b_1,.int .i64 b_2,.int .i64 b_3])=.ok ((a_0 == b_0)&&(a_1 == b_1)&&decide (a_2=b_2)&&decide (a_3=b_3)):=by
 refine (congrFun (congrFun (congrFun (congrFun (congrFun (congrFun (congrFun (congrFun aZm a_0) a_1) a_2) a_3) b_0) b_1) b_2) b_3).trans ?_
 simp only [iY,dI,Bool.and_true,Bool.and_assoc]
theorem bD6:(fun a b=>aJ prog 201 (.agg a) (.agg b))=fun _ _=>true:=by kernel_rfl
theorem aZn:(fun (a_0:Int) (a_1:Int) (b_0:Int) (b_1:Int)=>mI prog 100 346 (.agg [.int .i64 a_0,.int .u64 a_1]) (.agg [.int .i64 b_0,.int .u64 b_1]))=fun a_0 a_1 b_0 b_1=>(fF (.ok (decide (a_0=b_0))) (fF (.ok (decide (a_1=b_1))) (.ok true))):=by kernel_rfl
theorem bD7 (a_0:Int) (a_1:Int) (b_0:Int) (b_1:Int):mI prog 100 346 (.agg [.int .i64 a_0,.int .u64 a_1]) (.agg [.int .i64 b_0,.int .u64 b_1])=.ok (decide (a_0=b_0)&&decide (a_1=b_1)):=by
 refine (congrFun (congrFun (congrFun (congrFun aZn a_0) a_1) b_0) b_1).trans ?_
 simp only [iY,dI,Bool.and_true,Bool.and_assoc]
theorem bD8:(fun a b=>aJ prog 346 (.agg a) (.agg b))=fun _ _=>true:=by kernel_rfl
theorem bD9:(fun (a_0:Int) (a_1:Int) (a_2:Int) (b_0:Int) (b_1:Int) (b_2:Int)=>mI prog 100 48 (.agg [.int .i64 a_0,.int .i64 a_1,.int .i64 a_2]) (.agg [.int .i64 b_0,.int .i64 b_1,.int .i64 b_2]))=fun a_0 a_1 a_2 b_0 b_1 b_2=>(fF (.ok (decide (a_0=b_0))) (fF (.ok (decide (a_1=b_1))) (fF (.ok (decide (a_2=b_2))) (.ok true)))):=by kernel_rfl
theorem bIc (a_0:Int) (a_1:Int) (a_2:Int) (b_0:Int) (b_1:Int) (b_2:Int):mI prog 100 48 (.agg [.int .i64 a_0,.int .i64 a_1,.int .i64 a_2]) (.agg [.int .i64 b_0,.int .i64 b_1,.int .i64 b_2])=.ok (decide (a_0=b_0)&&decide (a_1=b_1)&&decide (a_2=b_2)):=by
 refine (congrFun (congrFun (congrFun (congrFun (congrFun (congrFun bD9 a_0) a_1) a_2) b_0) b_1) b_2).trans ?_
 simp only [iY,dI,Bool.and_true,Bool.and_assoc]
theorem bId:(fun a b=>aJ prog 48 (.agg a) (.agg b))=fun _ _=>true:=by kernel_rfl
theorem bDa:(fun (a_0:Int) (a_1:Int) (a_2:Int) (b_0:Int) (b_1:Int) (b_2:Int)=>mI prog 100 52 (.agg [.int .i64 a_0,.int .i64 a_1,.int .i64 a_2]) (.agg [.int .i64 b_0,.int .i64 b_1,.int .i64 b_2]))=fun a_0 a_1 a_2 b_0 b_1 b_2=>(fF (.ok (decide (a_0=b_0))) (fF (.ok (decide (a_1=b_1))) (fF (.ok (decide (a_2=b_2))) (.ok true)))):=by kernel_rfl
theorem bIe (a_0:Int) (a_1:Int) (a_2:Int) (b_0:Int) (b_1:Int) (b_2:Int):mI prog 100 52 (.agg [.int .i64 a_0,.int .i64 a_1,.int .i64 a_2]) (.agg [.int .i64 b_0,.int .i64 b_1,.int .i64 b_2])=.ok (decide (a_0=b_0)&&decide (a_1=b_1)&&decide (a_2=b_2)):=by
 refine (congrFun (congrFun (congrFun (congrFun (congrFun (congrFun bDa a_0) a_1) a_2) b_0) b_1) b_2).trans ?_
 simp only [iY,dI,Bool.and_true,Bool.and_assoc]
theorem bIf:(fun a b=>aJ prog 52 (.agg a) (.agg b))=fun _ _=>true:=by kernel_rfl
theorem bDb:(fun (a_0:List UInt8) (a_1_0:Int) (a_1_1:Int) (a_1_2:Int) (a_2:Int) (b_0:List UInt8) (b_1_0:Int) (b_1_1:Int) (b_1_2:Int) (b_2:Int)=>mI prog 100 54 (.agg [.str a_0,.int .i64 a_1_0,.int .i64 a_1_1,.int .i64 a_1_2,.int .i64 a_2]) (.agg [.str b_0,.int .i64 b_1_0,.int .i64 b_1_1,.int .i64 b_1_2,.int .i64 b_2]))=fun a_0 a_1_0 a_1_1 a_1_2 a_2 b_0 b_1_0 b_1_1 b_1_2 b_2=>(fF (.ok (oQ a_0 b_0)) (fF (fF (.ok (decide (a_1_0=b_1_0))) (fF (.ok (decide (a_1_1=b_1_1))) (fF (.ok (decide (a_1_2=b_1_2))) (.ok true)))) (fF (.ok (decide (a_2=b_2))) (.ok true)))):=by kernel_rfl
theorem bIg (a_0:List UInt8) (a_1_0:Int) (a_1_1:Int) (a_1_2:Int) (a_2:Int) (b_0:List UInt8) (b_1_0:Int) (b_1_1:Int) (b_1_2:Int) (b_2:Int):mI prog 100 54 (.agg [.str a_0,.int .i64 a_1_0,.int .i64 a_1_1,.int .i64 a_1_2,.int .i64 a_2]) (.agg [.str b_0,.int .i64 b_1_0,.int .i64 b_1_1,.int .i64 b_1_2,.int .i64 b_2])=.ok ((a_0 == b_0)&&decide (a_1_0=b_1_0)&&decide (a_1_1=b_1_1)&&decide (a_1_2=b_1_2)&&decide (a_2=b_2)):=by
 refine (congrFun (congrFun (congrFun (congrFun (congrFun (congrFun (congrFun (congrFun (congrFun (congrFun bDb a_0) a_1_0) a_1_1) a_1_2) a_2) b_0) b_1_0) b_1_1) b_1_2) b_2).trans ?_
 simp only [iY,dI,Bool.and_true,Bool.and_assoc]
theorem bIh:(fun a b=>aJ prog 54 (.agg a) (.agg b))=fun _ _=>true:=by kernel_rfl
theorem bDc:(fun (a_0:List UInt8) (a_1:Int) (b_0:List UInt8) (b_1:Int)=>mI prog 100 57 (.agg [.str a_0,.int .i64 a_1]) (.agg [.str b_0,.int .i64 b_1]))=fun a_0 a_1 b_0 b_1=>(fF (.ok (oQ a_0 b_0)) (fF (.ok (decide (a_1=b_1))) (.ok true))):=by kernel_rfl
theorem bIi (a_0:List UInt8) (a_1:Int) (b_0:List UInt8) (b_1:Int):mI prog 100 57 (.agg [.str a_0,.int .i64 a_1]) (.agg [.str b_0,.int .i64 b_1])=.ok ((a_0 == b_0)&&decide (a_1=b_1)):=by
 refine (congrFun (congrFun (congrFun (congrFun bDc a_0) a_1) b_0) b_1).trans ?_
 simp only [iY,dI,Bool.and_true,Bool.and_assoc]
theorem bIj:(fun a b=>aJ prog 57 (.agg a) (.agg b))=fun _ _=>true:=by kernel_rfl
theorem bDd:(fun (a_0:List UInt8) (a_1:Int) (a_2:Int) (a_3:Int) (b_0:List UInt8) (b_1:Int) (b_2:Int) (b_3:Int)=>mI prog 100 76 (.agg [.str a_0,.int .i64 a_1,.int .i64 a_2,.int .i64 a_3]) (.agg [.str b_0,.int .i64 b_1,.int .i64 b_2,.int .i64 b_3]))=fun a_0 a_1 a_2 a_3 b_0 b_1 b_2 b_3=>(fF (.ok (oQ a_0 b_0)) (fF (.ok (decide (a_1=b_1))) (fF (.ok (decide (a_2=b_2))) (fF (.ok (decide (a_3=b_3))) (.ok true))))):=by kernel_rfl
theorem bIk (a_0:List UInt8) (a_1:Int) (a_2:Int) (a_3:Int) (b_0:List UInt8) (b_1:Int) (b_2:Int) (b_3:Int):mI prog 100 76 (.agg [.str a_0,.int .i64 a_1,.int .i64 a_2,.int .i64 a_3]) (.agg [.str b_0,.int .i64 b_1,.int .i64 b_2,.int .i64 b_3])=.ok ((a_0 == b_0)&&decide (a_1=b_1)&&decide (a_2=b_2)&&decide (a_3=b_3)):=by
 refine (congrFun (congrFun (congrFun (congrFun (congrFun (congrFun (congrFun (congrFun bDd a_0) a_1) a_2) a_3) b_0) b_1) b_2) b_3).trans ?_
 simp only [iY,dI,Bool.and_true,Bool.and_assoc]
theorem bIl:(fun a b=>aJ prog 76 (.agg a) (.agg b))=fun _ _=>true:=by kernel_rfl
theorem bDe:(fun (a_0:List UInt8) (a_1:Int) (b_0:List UInt8) (b_1:Int)=>mI prog 100 90 (.agg [.str a_0,.int .i64 a_1]) (.agg [.str b_0,.int .i64 b_1]))=fun a_0 a_1 b_0 b_1=>(fF (.ok (oQ a_0 b_0)) (fF (.ok (decide (a_1=b_1))) (.ok true))):=by kernel_rfl
theorem bIm (a_0:List UInt8) (a_1:Int) (b_0:List UInt8) (b_1:Int):mI prog 100 90 (.agg [.str a_0,.int .i64 a_1]) (.agg [.str b_0,.int .i64 b_1])=.ok ((a_0 == b_0)&&decide (a_1=b_1)):=by
 refine (congrFun (congrFun (congrFun (congrFun bDe a_0) a_1) b_0) b_1).trans ?_
 simp only [iY,dI,Bool.and_true,Bool.and_assoc]
theorem bIn:(fun a b=>aJ prog 90 (.agg a) (.agg b))=fun _ _=>true:=by kernel_rfl
theorem aWa (p:V):aA prog 126 p 0=advW 0 p:=aG (by kernel_rfl) p
theorem aWb (p:V):aA prog 126 p 1=advW 1 p:=aG (by kernel_rfl) p
theorem aWc (p:V):aA prog 126 p 2=advW 2 p:=aG (by kernel_rfl) p
theorem aWd (p:V):aA prog 126 p 3=advW 3 p:=aG (by kernel_rfl) p
theorem aWe (p:V):aA prog 132 p 0=advW 0 p:=aG (by kernel_rfl) p
theorem aWf (p:V):aA prog 132 p 1=advW 1 p:=aG (by kernel_rfl) p
theorem aWg (p:V):aA prog 132 p 2=advW 2 p:=aG (by kernel_rfl) p
theorem aWh (p:V):aA prog 142 p 0=advW 0 p:=aG (by kernel_rfl) p
theorem aWi (p:V):aA prog 142 p 1=advW 1 p:=aG (by kernel_rfl) p
theorem aWj (p:V):aA prog 142 p 2=advW 2 p:=aG (by kernel_rfl) p
theorem aWk (p:V):aA prog 145 p 0=advW 0 p:=aG (by kernel_rfl) p
theorem aWl (p:V):aA prog 145 p 1=advW 1 p:=aG (by kernel_rfl) p
theorem aWm (p:V):aA prog 145 p 2=advW 2 p:=aG (by kernel_rfl) p
theorem aWn (p:V):aA prog 145 p 3=advW 3 p:=aG (by kernel_rfl) p
theorem aWo (p:V):aA prog 160 p 0=advW 0 p:=aG (by kernel_rfl) p
theorem aWp (p:V):aA prog 201 p 0=advW 0 p:=aG (by kernel_rfl) p
theorem aWq (p:V):aA prog 201 p 1=advW 1 p:=aG (by kernel_rfl) p
theorem aWr (p:V):aA prog 201 p 2=advW 2 p:=aG (by kernel_rfl) p
theorem aWs (p:V):aA prog 201 p 3=advW 3 p:=aG (by kernel_rfl) p
theorem aWt (p:V):aA prog 207 p 0=advW 0 p:=aG (by kernel_rfl) p
theorem aWu (p:V):aA prog 207 p 1=advW 17 p:=aG (by kernel_rfl) p
theorem aWv (p:V):aA prog 207 p 2=advW 18 p:=aG (by kernel_rfl) p
theorem aWw (p:V):aA prog 207 p 3=advW 19 p:=aG (by kernel_rfl) p
theorem aWx (p:V):aA prog 207 p 4=advW 20 p:=aG (by kernel_rfl) p
theorem aWy (p:V):aA prog 220 p 1=advW 1 p:=aG (by kernel_rfl) p
theorem aWz (p:V):aA prog 220 p 2=advW 2 p:=aG (by kernel_rfl) p
theorem aX0 (p:V):aA prog 225 p 0=advW 0 p:=aG (by kernel_rfl) p
theorem aX1 (p:V):aA prog 225 p 1=advW 1 p:=aG (by kernel_rfl) p
theorem aX2 (p:V):aA prog 225 p 2=advW 2 p:=aG (by kernel_rfl) p
theorem aX3 (p:V):aA prog 287 p 0=advW 0 p:=aG (by kernel_rfl) p
theorem aX4 (p:V):aA prog 287 p 1=advW 1 p:=aG (by kernel_rfl) p
theorem aZo (p:V):aA prog 30 p 0=advW 0 p:=aG (by kernel_rfl) p
theorem aZp (p:V):aA prog 30 p 1=advW 1 p:=aG (by kernel_rfl) p
theorem aZq (p:V):aA prog 30 p 2=advW 2 p:=aG (by kernel_rfl) p
theorem aZr (p:V):aA prog 30 p 3=advW 3 p:=aG (by kernel_rfl) p
theorem aZs (p:V):aA prog 30 p 4=advW 4 p:=aG (by kernel_rfl) p
theorem aZt (p:V):aA prog 30 p 5=advW 5 p:=aG (by kernel_rfl) p
theorem aX5 (p:V):aA prog 346 p 0=advW 0 p:=aG (by kernel_rfl) p
theorem aX6 (p:V):aA prog 346 p 1=advW 1 p:=aG (by kernel_rfl) p
theorem aZu (p:V):aA prog 48 p 0=advW 0 p:=aG (by kernel_rfl) p
theorem aZv (p:V):aA prog 48 p 1=advW 1 p:=aG (by kernel_rfl) p
theorem aZw (p:V):aA prog 48 p 2=advW 2 p:=aG (by kernel_rfl) p
theorem aZx (p:V):aA prog 52 p 0=advW 0 p:=aG (by kernel_rfl) p
theorem aZy (p:V):aA prog 52 p 1=advW 1 p:=aG (by kernel_rfl) p
theorem aZz (p:V):aA prog 52 p 2=advW 2 p:=aG (by kernel_rfl) p
theorem bA0 (p:V):aA prog 54 p 0=advW 0 p:=aG (by kernel_rfl) p
theorem bA1 (p:V):aA prog 54 p 1=advW 1 p:=aG (by kernel_rfl) p
theorem bA2 (p:V):aA prog 54 p 2=advW 4 p:=aG (by kernel_rfl) p
theorem bA3 (p:V):aA prog 57 p 0=advW 0 p:=aG (by kernel_rfl) p
theorem bA4 (p:V):aA prog 57 p 1=advW 1 p:=aG (by kernel_rfl) p
theorem bA5 (p:V):aA prog 59 p 0=advW 0 p:=aG (by kernel_rfl) p
theorem bA6 (p:V):aA prog 59 p 1=advW 1 p:=aG (by kernel_rfl) p
theorem bA7 (p:V):aA prog 59 p 2=advW 2 p:=aG (by kernel_rfl) p
theorem bA8 (p:V):aA prog 59 p 3=advW 3 p:=aG (by kernel_rfl) p
theorem bA9 (p:V):aA prog 59 p 4=advW 8 p:=aG (by kernel_rfl) p
theorem bAa (p:V):aA prog 59 p 5=advW 11 p:=aG (by kernel_rfl) p
theorem bAb (p:V):aA prog 59 p 6=advW 12 p:=aG (by kernel_rfl) p
theorem bAc (p:V):aA prog 59 p 7=advW 14 p:=aG (by kernel_rfl) p
theorem bAd (p:V):aA prog 61 p 0=advW 0 p:=aG (by kernel_rfl) p
theorem bAe (p:V):aA prog 61 p 1=advW 1 p:=aG (by kernel_rfl) p
theorem bAf (p:V):aA prog 61 p 2=advW 2 p:=aG (by kernel_rfl) p
theorem bAg (p:V):aA prog 76 p 0=advW 0 p:=aG (by kernel_rfl) p
theorem bAh (p:V):aA prog 76 p 1=advW 1 p:=aG (by kernel_rfl) p
theorem bAi (p:V):aA prog 76 p 2=advW 2 p:=aG (by kernel_rfl) p
theorem bAj (p:V):aA prog 76 p 3=advW 3 p:=aG (by kernel_rfl) p
theorem bAk (p:V):aA prog 77 p 0=advW 0 p:=aG (by kernel_rfl) p
theorem bAl (p:V):aA prog 77 p 1=advW 1 p:=aG (by kernel_rfl) p
theorem bAm (p:V):aA prog 77 p 2=advW 2 p:=aG (by kernel_rfl) p
theorem bAn (p:V):aA prog 77 p 3=advW 3 p:=aG (by kernel_rfl) p
theorem bAo (p:V):aA prog 82 p 0=advW 0 p:=aG (by kernel_rfl) p
theorem bAp (p:V):aA prog 82 p 1=advW 1 p:=aG (by kernel_rfl) p
theorem bAq (p:V):aA prog 82 p 2=advW 2 p:=aG (by kernel_rfl) p
theorem bAr (p:V):aA prog 82 p 3=advW 3 p:=aG (by kernel_rfl) p
theorem bAs (p:V):aA prog 84 p 0=advW 0 p:=aG (by kernel_rfl) p
theorem bAt (p:V):aA prog 84 p 1=advW 2 p:=aG (by kernel_rfl) p
theorem bAu (p:V):aA prog 84 p 2=advW 5 p:=aG (by kernel_rfl) p
theorem bAv (p:V):aA prog 84 p 3=advW 9 p:=aG (by kernel_rfl) p
theorem bAw (p:V):aA prog 84 p 4=advW 11 p:=aG (by kernel_rfl) p
theorem bAx (p:V):aA prog 90 p 0=advW 0 p:=aG (by kernel_rfl) p
theorem bAy (p:V):aA prog 90 p 1=advW 1 p:=aG (by kernel_rfl) p
theorem bAz (p:V):aA prog 99 p 0=advW 0 p:=aG (by kernel_rfl) p
theorem bB0 (p:V):aA prog 99 p 1=advW 17 p:=aG (by kernel_rfl) p
theorem bB1 (p:V):aA prog 99 p 2=advW 18 p:=aG (by kernel_rfl) p
theorem bB2 (p:V):aA prog 99 p 3=advW 19 p:=aG (by kernel_rfl) p
theorem bB3 (p:V):aA prog 99 p 4=advW 20 p:=aG (by kernel_rfl) p
theorem bDf (x i:V):aC prog 102 x i=cU 23 x i:=bQ (by kernel_rfl) x i
theorem bDg (x i:V):aC prog 114 x i=cU 3 x i:=bQ (by kernel_rfl) x i
theorem bIo (x i:V):aC prog 22 x i=cU 1 x i:=bQ (by kernel_rfl) x i
theorem bIp (x i:V):aC prog 24 x i=cU 5 x i:=bQ (by kernel_rfl) x i
theorem bIq (x i:V):aC prog 25 x i=cU 4 x i:=bQ (by kernel_rfl) x i
theorem bIr (x i:V):aC prog 26 x i=cU 12 x i:=bQ (by kernel_rfl) x i
theorem bIs (x i:V):aC prog 27 x i=cU 2 x i:=bQ (by kernel_rfl) x i
theorem bIt (x i:V):aC prog 28 x i=cU 5 x i:=bQ (by kernel_rfl) x i
theorem bDh (x i:V):aC prog 361 x i=cU 1 x i:=bQ (by kernel_rfl) x i
theorem bDi (x i:V):aC prog 364 x i=cU 1 x i:=bQ (by kernel_rfl) x i
theorem bIu (x i:V):aC prog 44 x i=cU 17 x i:=bQ (by kernel_rfl) x i
theorem bIv (x i:V):aC prog 55 x i=cU 4 x i:=bQ (by kernel_rfl) x i
theorem bIw (x i:V):aC prog 62 x i=cU 3 x i:=bQ (by kernel_rfl) x i
theorem bIx (x i:V):aC prog 68 x i=cU 4 x i:=bQ (by kernel_rfl) x i
theorem bIy (x i:V):aC prog 71 x i=cU 4 x i:=bQ (by kernel_rfl) x i
theorem bIz (x i:V):aC prog 80 x i=cU 4 x i:=bQ (by kernel_rfl) x i
theorem bJ0 (x i:V):aC prog 96 x i=cU 1 x i:=bQ (by kernel_rfl) x i
theorem bJ1 (x i:V):aC prog 97 x i=cU 23 x i:=bQ (by kernel_rfl) x i
theorem bDj (p:V) (S:St):aB prog 126 p S=bB (some 4) p S:=bL (by kernel_rfl) p S
theorem bDk (p:V) (S:St):aB prog 132 p S=bB (some 5) p S:=bL (by kernel_rfl) p S
theorem bDl (p:V) (S:St):aB prog 145 p S=bB (some 4) p S:=bL (by kernel_rfl) p S
theorem ld2 (p:V) (S:St):aB prog 2 p S=bB none p S:=bL (by kernel_rfl) p S
theorem bDm (p:V) (S:St):aB prog 201 p S=bB (some 4) p S:=bL (by kernel_rfl) p S
theorem bDn (p:V) (S:St):aB prog 212 p S=bB (some 1) p S:=bL (by kernel_rfl) p S
theorem bJ3 (p:V) (S:St):aB prog 22 p S=bB none p S:=bL (by kernel_rfl) p S
theorem bDo (p:V) (S:St):aB prog 220 p S=bB (some 3) p S:=bL (by kernel_rfl) p S
theorem bDp (p:V) (S:St):aB prog 229 p S=bB none p S:=bL (by kernel_rfl) p S
theorem bDq (p:V) (S:St):aB prog 232 p S=bB none p S:=bL (by kernel_rfl) p S
theorem bJ4 (p:V) (S:St):aB prog 24 p S=bB none p S:=bL (by kernel_rfl) p S
theorem bJ5 (p:V) (S:St):aB prog 25 p S=bB none p S:=bL (by kernel_rfl) p S
theorem bJ6 (p:V) (S:St):aB prog 26 p S=bB none p S:=bL (by kernel_rfl) p S
theorem bJ7 (p:V) (S:St):aB prog 27 p S=bB none p S:=bL (by kernel_rfl) p S
theorem bJ8 (p:V) (S:St):aB prog 28 p S=bB none p S:=bL (by kernel_rfl) p S
theorem ld3 (p:V) (S:St):aB prog 3 p S=bB none p S:=bL (by kernel_rfl) p S
theorem bJa (p:V) (S:St):aB prog 30 p S=bB (some 6) p S:=bL (by kernel_rfl) p S
theorem bJb (p:V) (S:St):aB prog 31 p S=bB none p S:=bL (by kernel_rfl) p S
theorem bDr (p:V) (S:St):aB prog 346 p S=bB (some 2) p S:=bL (by kernel_rfl) p S
theorem bDs (p:V) (S:St):aB prog 349 p S=bB none p S:=bL (by kernel_rfl) p S
theorem ld4 (p:V) (S:St):aB prog 4 p S=bB none p S:=bL (by kernel_rfl) p S
theorem bJc (p:V) (S:St):aB prog 48 p S=bB (some 3) p S:=bL (by kernel_rfl) p S
theorem ld5 (p:V) (S:St):aB prog 5 p S=bB none p S:=bL (by kernel_rfl) p S
theorem bJd (p:V) (S:St):aB prog 52 p S=bB (some 3) p S:=bL (by kernel_rfl) p S
theorem bJe (p:V) (S:St):aB prog 54 p S=bB (some 5) p S:=bL (by kernel_rfl) p S
theorem bJf (p:V) (S:St):aB prog 55 p S=bB none p S:=bL (by kernel_rfl) p S
theorem bJg (p:V) (S:St):aB prog 57 p S=bB (some 2) p S:=bL (by kernel_rfl) p S
theorem bJh (p:V) (S:St):aB prog 59 p S=bB (some 15) p S:=bL (by kernel_rfl) p S
theorem bJi (p:V) (S:St):aB prog 61 p S=bB (some 17) p S:=bL (by kernel_rfl) p S
theorem bJj (p:V) (S:St):aB prog 76 p S=bB (some 4) p S:=bL (by kernel_rfl) p S
theorem bJk (p:V) (S:St):aB prog 80 p S=bB none p S:=bL (by kernel_rfl) p S
theorem bJl (p:V) (S:St):aB prog 82 p S=bB (some 4) p S:=bL (by kernel_rfl) p S
theorem bJm (p:V) (S:St):aB prog 84 p S=bB (some 12) p S:=bL (by kernel_rfl) p S
theorem ld9 (p:V) (S:St):aB prog 9 p S=bB none p S:=bL (by kernel_rfl) p S
theorem bJn (p:V) (S:St):aB prog 90 p S=bB (some 2) p S:=bL (by kernel_rfl) p S
theorem bJo (p:V) (S:St):aB prog 99 p S=bB (some 23) p S:=bL (by kernel_rfl) p S
theorem bB4 (x:V) (S:St):bG prog 102 x S=lenW x:=eF (by kernel_rfl) x S
theorem bB5 (x:V) (S:St):bG prog 114 x S=lenW x:=eF (by kernel_rfl) x S
theorem bDt (x:V) (S:St):bG prog 22 x S=lenW x:=eF (by kernel_rfl) x S
theorem bDu (x:V) (S:St):bG prog 24 x S=lenW x:=eF (by kernel_rfl) x S
theorem bDv (x:V) (S:St):bG prog 25 x S=lenW x:=eF (by kernel_rfl) x S
theorem bDw (x:V) (S:St):bG prog 26 x S=lenW x:=eF (by kernel_rfl) x S
theorem bDx (x:V) (S:St):bG prog 27 x S=lenW x:=eF (by kernel_rfl) x S
theorem bDy (x:V) (S:St):bG prog 28 x S=lenW x:=eF (by kernel_rfl) x S
theorem bB6 (x:V) (S:St):bG prog 361 x S=lenW x:=eF (by kernel_rfl) x S
theorem bB7 (x:V) (S:St):bG prog 364 x S=lenW x:=eF (by kernel_rfl) x S
theorem bDz (x:V) (S:St):bG prog 44 x S=lenW x:=eF (by kernel_rfl) x S
theorem bE0 (x:V) (S:St):bG prog 55 x S=lenW x:=eF (by kernel_rfl) x S
theorem bE1 (x:V) (S:St):bG prog 62 x S=lenW x:=eF (by kernel_rfl) x S
theorem bE2 (x:V) (S:St):bG prog 68 x S=lenW x:=eF (by kernel_rfl) x S
theorem bE3 (x:V) (S:St):bG prog 71 x S=lenW x:=eF (by kernel_rfl) x S
theorem bE4 (x:V) (S:St):bG prog 80 x S=lenW x:=eF (by kernel_rfl) x S
theorem bJp (s:List UInt8) (S:St):bG prog 9 (.str s) S=.ok (.int .i64 s.length):=aNb (by kernel_rfl) s S
theorem bE5 (x:V) (S:St):bG prog 96 x S=lenW x:=eF (by kernel_rfl) x S
theorem bE6 (x:V) (S:St):bG prog 97 x S=lenW x:=eF (by kernel_rfl) x S
theorem bJq (a ver off len : Nat) (lo hi : Option V) : cK prog 22 (.sl a ver 1 off len) lo hi = (match cJ len lo hi with
      | .ok (l, h) => .ok (.sl a ver 1 (off + l) (h - l))
      | .error e => .error e) := fE (by kernel_rfl) a ver off len lo hi
theorem bJr (a ver off len : Nat) (lo hi : Option V) : cK prog 24 (.sl a ver 5 off len) lo hi = (match cJ len lo hi with
      | .ok (l, h) => .ok (.sl a ver 5 (off + l) (h - l))
      | .error e => .error e) := fE (by kernel_rfl) a ver off len lo hi
theorem bJs (a ver off len : Nat) (lo hi : Option V) : cK prog 25 (.sl a ver 4 off len) lo hi = (match cJ len lo hi with
      | .ok (l, h) => .ok (.sl a ver 4 (off + l) (h - l))
      | .error e => .error e) := fE (by kernel_rfl) a ver off len lo hi
theorem bJt (a ver off len : Nat) (lo hi : Option V) : cK prog 26 (.sl a ver 12 off len) lo hi = (match cJ len lo hi with
      | .ok (l, h) => .ok (.sl a ver 12 (off + l) (h - l))
      | .error e => .error e) := fE (by kernel_rfl) a ver off len lo hi
theorem bE7 (es : List (List V)) (hl : iS 12 es = true) (lo hi : Option V) : cK prog 26 (.imm es) lo hi = (match cJ es.length lo hi with
      | .ok (l, h) => .ok (.imm ((es.take h).drop l))
      | .error e => .error e) := aBh (by kernel_rfl) es hl lo hi
theorem bJu (a ver off len : Nat) (lo hi : Option V) : cK prog 27 (.sl a ver 2 off len) lo hi = (match cJ len lo hi with
      | .ok (l, h) => .ok (.sl a ver 2 (off + l) (h - l))
      | .error e => .error e) := fE (by kernel_rfl) a ver off len lo hi
theorem bJv (a ver off len : Nat) (lo hi : Option V) : cK prog 28 (.sl a ver 5 off len) lo hi = (match cJ len lo hi with
      | .ok (l, h) => .ok (.sl a ver 5 (off + l) (h - l))
      | .error e => .error e) := fE (by kernel_rfl) a ver off len lo hi
theorem bJw (a ver off len : Nat) (lo hi : Option V) : cK prog 55 (.sl a ver 4 off len) lo hi = (match cJ len lo hi with
      | .ok (l, h) => .ok (.sl a ver 4 (off + l) (h - l))
      | .error e => .error e) := fE (by kernel_rfl) a ver off len lo hi
theorem bE8 (es : List (List V)) (hl : iS 4 es = true) (lo hi : Option V) : cK prog 55 (.imm es) lo hi = (match cJ es.length lo hi with
      | .ok (l, h) => .ok (.imm ((es.take h).drop l))
      | .error e => .error e) := aBh (by kernel_rfl) es hl lo hi
theorem bJx (a ver off len : Nat) (lo hi : Option V) : cK prog 71 (.sl a ver 4 off len) lo hi = (match cJ len lo hi with
      | .ok (l, h) => .ok (.sl a ver 4 (off + l) (h - l))
      | .error e => .error e) := fE (by kernel_rfl) a ver off len lo hi
theorem bJy (a ver off len : Nat) (lo hi : Option V) : cK prog 80 (.sl a ver 4 off len) lo hi = (match cJ len lo hi with
      | .ok (l, h) => .ok (.sl a ver 4 (off + l) (h - l))
      | .error e => .error e) := fE (by kernel_rfl) a ver off len lo hi
theorem bJz (a ver off len : Nat) (lo hi : Option V) : cK prog 96 (.sl a ver 1 off len) lo hi = (match cJ len lo hi with
      | .ok (l, h) => .ok (.sl a ver 1 (off + l) (h - l))
      | .error e => .error e) := fE (by kernel_rfl) a ver off len lo hi
theorem bK0 (a ver off len : Nat) (lo hi : Option V) : cK prog 97 (.sl a ver 23 off len) lo hi = (match cJ len lo hi with
      | .ok (l, h) => .ok (.sl a ver 23 (off + l) (h - l))
      | .error e => .error e) := fE (by kernel_rfl) a ver off len lo hi
theorem bE9 (p x:V) (S:St):aH prog 126 p x S=aV 4 p x S:=bJ (by kernel_rfl) p x S
theorem bEa (p x:V) (S:St):aH prog 132 p x S=aV 5 p x S:=bJ (by kernel_rfl) p x S
theorem bEb (p x:V) (S:St):aH prog 145 p x S=aV 4 p x S:=bJ (by kernel_rfl) p x S
theorem bEc (p x:V) (S:St):aH prog 201 p x S=aV 4 p x S:=bJ (by kernel_rfl) p x S
theorem bEd (p x:V) (S:St):aH prog 212 p x S=aV 1 p x S:=bJ (by kernel_rfl) p x S
theorem bK1 (p x:V) (S:St):aH prog 22 p x S=aV 1 p x S:=bJ (by kernel_rfl) p x S
theorem bEe (p x:V) (S:St):aH prog 220 p x S=aV 3 p x S:=bJ (by kernel_rfl) p x S
theorem bEf (p x:V) (S:St):aH prog 232 p x S=aV 1 p x S:=bJ (by kernel_rfl) p x S
theorem bK2 (p x:V) (S:St):aH prog 24 p x S=aV 1 p x S:=bJ (by kernel_rfl) p x S
theorem bK3 (p x:V) (S:St):aH prog 25 p x S=aV 1 p x S:=bJ (by kernel_rfl) p x S
theorem bK4 (p x:V) (S:St):aH prog 26 p x S=aV 1 p x S:=bJ (by kernel_rfl) p x S
theorem bK5 (p x:V) (S:St):aH prog 27 p x S=aV 1 p x S:=bJ (by kernel_rfl) p x S
theorem bK6 (p x:V) (S:St):aH prog 28 p x S=aV 1 p x S:=bJ (by kernel_rfl) p x S
theorem st3 (p x:V) (S:St):aH prog 3 p x S=aV 1 p x S:=bJ (by kernel_rfl) p x S
theorem bK7 (p x:V) (S:St):aH prog 30 p x S=aV 6 p x S:=bJ (by kernel_rfl) p x S
theorem bK8 (p x:V) (S:St):aH prog 31 p x S=aV 1 p x S:=bJ (by kernel_rfl) p x S
theorem bEg (p x:V) (S:St):aH prog 346 p x S=aV 2 p x S:=bJ (by kernel_rfl) p x S
theorem st4 (p x:V) (S:St):aH prog 4 p x S=aV 1 p x S:=bJ (by kernel_rfl) p x S
theorem bK9 (p x:V) (S:St):aH prog 48 p x S=aV 3 p x S:=bJ (by kernel_rfl) p x S
theorem st5 (p x:V) (S:St):aH prog 5 p x S=aV 1 p x S:=bJ (by kernel_rfl) p x S
theorem bKa (p x:V) (S:St):aH prog 52 p x S=aV 3 p x S:=bJ (by kernel_rfl) p x S
theorem bKb (p x:V) (S:St):aH prog 54 p x S=aV 5 p x S:=bJ (by kernel_rfl) p x S
theorem bKc (p x:V) (S:St):aH prog 55 p x S=aV 1 p x S:=bJ (by kernel_rfl) p x S
theorem bKd (p x:V) (S:St):aH prog 57 p x S=aV 2 p x S:=bJ (by kernel_rfl) p x S
theorem bKe (p x:V) (S:St):aH prog 59 p x S=aV 15 p x S:=bJ (by kernel_rfl) p x S
theorem bKf (p x:V) (S:St):aH prog 61 p x S=aV 17 p x S:=bJ (by kernel_rfl) p x S
theorem bKg (p x:V) (S:St):aH prog 80 p x S=aV 1 p x S:=bJ (by kernel_rfl) p x S
theorem bKh (p x:V) (S:St):aH prog 82 p x S=aV 4 p x S:=bJ (by kernel_rfl) p x S
theorem bKi (p x:V) (S:St):aH prog 84 p x S=aV 12 p x S:=bJ (by kernel_rfl) p x S
theorem st9 (p x:V) (S:St):aH prog 9 p x S=aV 1 p x S:=bJ (by kernel_rfl) p x S
theorem bKj (p x:V) (S:St):aH prog 90 p x S=aV 2 p x S:=bJ (by kernel_rfl) p x S
theorem bKk (p x:V) (S:St):aH prog 99 p x S=aV 23 p x S:=bJ (by kernel_rfl) p x S
def dVl:List Nat:=[3,4,5,6,7,8,9,10,11,12,13,14,15,16,17,18,19,21,22,23,24,25,26,27,28,29,30,31,32,33,34,35,36,37,38,40,41,42,43,44,45,46,47,48,49,50,51,52,53,54,55,56,57,58,59,62,64,68,69,70,73,74,75,76,77,78,80,81,82,83,84,85,86,87,88,89,90,91,92,93,94,95,96,97,98,99,100,101,103,104,105,107,108,109,110,111,112,113,114,115,116,117,118,119,120,121,122,123,124,126,127,128,129,130,131,132,133,134,135,136,137,138,139,140,141,142,143,144,145,146,147,148,150,151,152,153,155,156,157,158,159,160,161,162,163,164,165,166,167,168,169,170,171,172,173,174,175,177,178,182,185,186,187,188,189,190,191,192,193,194,195,196,197,198,199,200,201,203,204,205,206,207,208,209,210,211,212,213,214,215,216,217,218,219,220,222,223,224,225,226,227,228,229,231,232,233,236,238,241,242,243,244,245,246,249,250,251,252,253,254,258,260,263,268,271,273,278,279,286,287,307,308,309,310,311,312,313,314]
def dOl:List (Nat×List Nat):=[(235,[0]),(102,[2])]
noncomputable def uN:eZ:=rL prog dSp aSh dVl dOl
noncomputable abbrev C:aD:=W prog uN
abbrev Fv (f:Nat) (args:List V) (v:V):Prop:=Go.AM.Fn prog uN f args v
abbrev Fr (f:Nat) (mk:Nat→List V) (n:Nat) (pre:List V) (v:V) (post:List V):Prop:=Go.AM.FnR prog uN f mk 0 n [pre] v [post]
theorem t11 (C:aD) (a0 a1 a2 a3:V) (S:St) (K:KW):aM prog C (bC 11) (bE 11) 11 [a0,a1,a2,a3] S K=m11 C a0 a1 a2 a3 S K:=congrFun (congrFun (congrFun (congrFun (congrFun (congrFun (congrFun aYs C) a0) a1) a2) a3) S) K
theorem v11 {a0 a1 a2 a3:V} {v:V} (hc:cloVs [a0,a1,a2,a3]=true) (h:m11 C a0 a1 a2 a3 ⟨0,.nil⟩ fun v0 S0=>bX S0 v0=.ok v):Fv 11 [a0,a1,a2,a3] v:=Go.AM.Fn.of (p:=bC 11) (lv:=bE 11) (by kernel_rfl) hc (by rw [t11];exact h)
theorem t24 (C:aD) (a0:V) (S:St) (K:KW):aM prog C (bC 24) (bE 24) 24 [a0] S K=m24 C a0 S K:=congrFun (congrFun (congrFun (congrFun aYt C) a0) S) K
theorem v24 {a0:V} {v:V} (hc:cloVs [a0]=true) (h:m24 C a0 ⟨0,.nil⟩ fun v0 S0=>bX S0 v0=.ok v):Fv 24 [a0] v:=Go.AM.Fn.of (p:=bC 24) (lv:=bE 24) (by kernel_rfl) hc (by rw [t24];exact h)
theorem bKl:uN 24=some (.val (bC 24)):=by kernel_rfl
theorem t30 (C:aD) (a0 a1:V) (S:St) (K:KW):aM prog C (bC 30) (bE 30) 30 [a0,a1] S K=m30 C a0 a1 S K:=congrFun (congrFun (congrFun (congrFun (congrFun aYu C) a0) a1) S) K
theorem v30 {a0 a1:V} {v:V} (hc:cloVs [a0,a1]=true) (h:m30 C a0 a1 ⟨0,.nil⟩ fun v0 S0=>bX S0 v0=.ok v):Fv 30 [a0,a1] v:=Go.AM.Fn.of (p:=bC 30) (lv:=bE 30) (by kernel_rfl) hc (by rw [t30];exact h)
theorem t31 (C:aD) (S:St) (K:KW):aM prog C (bC 31) (bE 31) 31 [] S K=m31 C S K:=congrFun (congrFun (congrFun aYv C) S) K
theorem v31 {v:V} (hc:cloVs []=true) (h:m31 C ⟨0,.nil⟩ fun v0 S0=>bX S0 v0=.ok v):Fv 31 [] v:=Go.AM.Fn.of (p:=bC 31) (lv:=bE 31) (by kernel_rfl) hc (by rw [t31];exact h)
theorem t33 (C:aD) (a0 a1:V) (S:St) (K:KW):aM prog C (bC 33) (bE 33) 33 [a0,a1] S K=m33 C a0 a1 S K:=congrFun (congrFun (congrFun (congrFun (congrFun aYw C) a0) a1) S) K
theorem v33 {a0 a1:V} {v:V} (hc:cloVs [a0,a1]=true) (h:m33 C a0 a1 ⟨0,.nil⟩ fun v0 S0=>bX S0 v0=.ok v):Fv 33 [a0,a1] v:=Go.AM.Fn.of (p:=bC 33) (lv:=bE 33) (by kernel_rfl) hc (by rw [t33];exact h)
theorem bKm:uN 33=some (.val (bC 33)):=by kernel_rfl
theorem t35 (C:aD) (a0 a1:V) (S:St) (K:KW):aM prog C (bC 35) (bE 35) 35 [a0,a1] S K=m35 C a0 a1 S K:=congrFun (congrFun (congrFun (congrFun (congrFun aYx C) a0) a1) S) K
theorem v35 {a0 a1:V} {v:V} (hc:cloVs [a0,a1]=true) (h:m35 C a0 a1 ⟨0,.nil⟩ fun v0 S0=>bX S0 v0=.ok v):Fv 35 [a0,a1] v:=Go.AM.Fn.of (p:=bC 35) (lv:=bE 35) (by kernel_rfl) hc (by rw [t35];exact h)
theorem bKn:uN 35=some (.val (bC 35)):=by kernel_rfl
theorem t40 (C:aD) (a0 a1 a2:V) (S:St) (K:KW):aM prog C (bC 40) (bE 40) 40 [a0,a1,a2] S K=m40 C a0 a1 a2 S K:=congrFun (congrFun (congrFun (congrFun (congrFun (congrFun aYy C) a0) a1) a2) S) K
theorem v40 {a0 a1 a2:V} {v:V} (hc:cloVs [a0,a1,a2]=true) (h:m40 C a0 a1 a2 ⟨0,.nil⟩ fun v0 S0=>bX S0 v0=.ok v):Fv 40 [a0,a1,a2] v:=Go.AM.Fn.of (p:=bC 40) (lv:=bE 40) (by kernel_rfl) hc (by rw [t40];exact h)
theorem t42 (C:aD) (a0:V) (S:St) (K:KW):aM prog C (bC 42) (bE 42) 42 [a0] S K=m42 C a0 S K:=congrFun (congrFun (congrFun (congrFun aYz C) a0) S) K
theorem v42 {a0:V} {v:V} (hc:cloVs [a0]=true) (h:m42 C a0 ⟨0,.nil⟩ fun v0 S0=>bX S0 v0=.ok v):Fv 42 [a0] v:=Go.AM.Fn.of (p:=bC 42) (lv:=bE 42) (by kernel_rfl) hc (by rw [t42];exact h)
theorem bKo:uN 42=some (.val (bC 42)):=by kernel_rfl
theorem t44 (C:aD) (S:St) (K:KW):aM prog C (bC 44) (bE 44) 44 [] S K=m44 C S K:=congrFun (congrFun (congrFun aZ0 C) S) K
theorem v44 {v:V} (hc:cloVs []=true) (h:m44 C ⟨0,.nil⟩ fun v0 S0=>bX S0 v0=.ok v):Fv 44 [] v:=Go.AM.Fn.of (p:=bC 44) (lv:=bE 44) (by kernel_rfl) hc (by rw [t44];exact h)
theorem t45 (C:aD) (a0 a1 a2:V) (S:St) (K:KW):aM prog C (bC 45) (bE 45) 45 [a0,a1,a2] S K=m45 C a0 a1 a2 S K:=congrFun (congrFun (congrFun (congrFun (congrFun (congrFun aZ1 C) a0) a1) a2) S) K
theorem v45 {a0 a1 a2:V} {v:V} (hc:cloVs [a0,a1,a2]=true) (h:m45 C a0 a1 a2 ⟨0,.nil⟩ fun v0 S0=>bX S0 v0=.ok v):Fv 45 [a0,a1,a2] v:=Go.AM.Fn.of (p:=bC 45) (lv:=bE 45) (by kernel_rfl) hc (by rw [t45];exact h)
theorem t46 (C:aD) (a0:V) (S:St) (K:KW):aM prog C (bC 46) (bE 46) 46 [a0] S K=m46 C a0 S K:=congrFun (congrFun (congrFun (congrFun aZ2 C) a0) S) K
theorem v46 {a0:V} {v:V} (hc:cloVs [a0]=true) (h:m46 C a0 ⟨0,.nil⟩ fun v0 S0=>bX S0 v0=.ok v):Fv 46 [a0] v:=Go.AM.Fn.of (p:=bC 46) (lv:=bE 46) (by kernel_rfl) hc (by rw [t46];exact h)
theorem t48 (C:aD) (a0:V) (S:St) (K:KW):aM prog C (bC 48) (bE 48) 48 [a0] S K=m48 C a0 S K:=congrFun (congrFun (congrFun (congrFun aZ3 C) a0) S) K
theorem v48 {a0:V} {v:V} (hc:cloVs [a0]=true) (h:m48 C a0 ⟨0,.nil⟩ fun v0 S0=>bX S0 v0=.ok v):Fv 48 [a0] v:=Go.AM.Fn.of (p:=bC 48) (lv:=bE 48) (by kernel_rfl) hc (by rw [t48];exact h)
theorem t85 (C:aD) (a0:V) (S:St) (K:KW):aM prog C (bC 85) (bE 85) 85 [a0] S K=m85 C a0 S K:=congrFun (congrFun (congrFun (congrFun aZ4 C) a0) S) K
theorem v85 {a0:V} {v:V} (hc:cloVs [a0]=true) (h:m85 C a0 ⟨0,.nil⟩ fun v0 S0=>bX S0 v0=.ok v):Fv 85 [a0] v:=Go.AM.Fn.of (p:=bC 85) (lv:=bE 85) (by kernel_rfl) hc (by rw [t85];exact h)
theorem t86 (C:aD) (a0:V) (S:St) (K:KW):aM prog C (bC 86) (bE 86) 86 [a0] S K=m86 C a0 S K:=congrFun (congrFun (congrFun (congrFun aZ5 C) a0) S) K
theorem v86 {a0:V} {v:V} (hc:cloVs [a0]=true) (h:m86 C a0 ⟨0,.nil⟩ fun v0 S0=>bX S0 v0=.ok v):Fv 86 [a0] v:=Go.AM.Fn.of (p:=bC 86) (lv:=bE 86) (by kernel_rfl) hc (by rw [t86];exact h)
theorem t87 (C:aD) (a0:V) (S:St) (K:KW):aM prog C (bC 87) (bE 87) 87 [a0] S K=m87 C a0 S K:=congrFun (congrFun (congrFun (congrFun aZ6 C) a0) S) K
theorem v87 {a0:V} {v:V} (hc:cloVs [a0]=true) (h:m87 C a0 ⟨0,.nil⟩ fun v0 S0=>bX S0 v0=.ok v):Fv 87 [a0] v:=Go.AM.Fn.of (p:=bC 87) (lv:=bE 87) (by kernel_rfl) hc (by rw [t87];exact h)
theorem t88 (C:aD) (a0:V) (S:St) (K:KW):aM prog C (bC 88) (bE 88) 88 [a0] S K=m88 C a0 S K:=congrFun (congrFun (congrFun (congrFun aZ7 C) a0) S) K
theorem v88 {a0:V} {v:V} (hc:cloVs [a0]=true) (h:m88 C a0 ⟨0,.nil⟩ fun v0 S0=>bX S0 v0=.ok v):Fv 88 [a0] v:=Go.AM.Fn.of (p:=bC 88) (lv:=bE 88) (by kernel_rfl) hc (by rw [t88];exact h)
theorem t89 (C:aD) (a0:V) (S:St) (K:KW):aM prog C (bC 89) (bE 89) 89 [a0] S K=m89 C a0 S K:=congrFun (congrFun (congrFun (congrFun aZ8 C) a0) S) K
theorem v89 {a0:V} {v:V} (hc:cloVs [a0]=true) (h:m89 C a0 ⟨0,.nil⟩ fun v0 S0=>bX S0 v0=.ok v):Fv 89 [a0] v:=Go.AM.Fn.of (p:=bC 89) (lv:=bE 89) (by kernel_rfl) hc (by rw [t89];exact h)
theorem t90 (C:aD) (a0:V) (S:St) (K:KW):aM prog C (bC 90) (bE 90) 90 [a0] S K=m90 C a0 S K:=congrFun (congrFun (congrFun (congrFun aZ9 C) a0) S) K
theorem v90 {a0:V} {v:V} (hc:cloVs [a0]=true) (h:m90 C a0 ⟨0,.nil⟩ fun v0 S0=>bX S0 v0=.ok v):Fv 90 [a0] v:=Go.AM.Fn.of (p:=bC 90) (lv:=bE 90) (by kernel_rfl) hc (by rw [t90];exact h)
theorem t91 (C:aD) (a0 a1:V) (S:St) (K:KW):aM prog C (bC 91) (bE 91) 91 [a0,a1] S K=m91 C a0 a1 S K:=congrFun (congrFun (congrFun (congrFun (congrFun aZa C) a0) a1) S) K
theorem v91 {a0 a1:V} {v:V} (hc:cloVs [a0,a1]=true) (h:m91 C a0 a1 ⟨0,.nil⟩ fun v0 S0=>bX S0 v0=.ok v):Fv 91 [a0,a1] v:=Go.AM.Fn.of (p:=bC 91) (lv:=bE 91) (by kernel_rfl) hc (by rw [t91];exact h)
theorem t102 (C:aD) (a0:V) (S:St) (K:KW):aM prog C (bC 102) (bE 102) 102 [a0] S K=aSi C a0 S K:=congrFun (congrFun (congrFun (congrFun aSj C) a0) S) K
theorem bKp {a0:V} {S:St} {K:KW} (hc:cloVs [a0]=true) (h:aSi C a0 ⟨0,.nil⟩ fun v0 S0=>wR (pD [2] v0 S0 S) fun r=>K r.1 r.2):C 102 [a0] S K:=aY0 (p:=bC 102) (lv:=bE 102) (by kernel_rfl) hc (by rw [t102];exact h)
theorem t103 (C:aD) (a0:V) (S:St) (K:KW):aM prog C (bC 103) (bE 103) 103 [a0] S K=aSk C a0 S K:=congrFun (congrFun (congrFun (congrFun aSl C) a0) S) K
theorem bKq {a0:V} {v:V} (hc:cloVs [a0]=true) (h:aSk C a0 ⟨0,.nil⟩ fun v0 S0=>bX S0 v0=.ok v):Fv 103 [a0] v:=Go.AM.Fn.of (p:=bC 103) (lv:=bE 103) (by kernel_rfl) hc (by rw [t103];exact h)
theorem t104 (C:aD) (a0:V) (S:St) (K:KW):aM prog C (bC 104) (bE 104) 104 [a0] S K=aSm C a0 S K:=congrFun (congrFun (congrFun (congrFun aSn C) a0) S) K
theorem bKr {a0:V} {v:V} (hc:cloVs [a0]=true) (h:aSm C a0 ⟨0,.nil⟩ fun v0 S0=>bX S0 v0=.ok v):Fv 104 [a0] v:=Go.AM.Fn.of (p:=bC 104) (lv:=bE 104) (by kernel_rfl) hc (by rw [t104];exact h)
theorem bEh:uN 104=some (.val (bC 104)):=by kernel_rfl
theorem t105 (C:aD) (a0 a1 a2:V) (S:St) (K:KW):aM prog C (bC 105) (bE 105) 105 [a0,a1,a2] S K=aSo C a0 a1 a2 S K:=congrFun (congrFun (congrFun (congrFun (congrFun (congrFun aSp C) a0) a1) a2) S) K
theorem bKs {a0 a1 a2:V} {v:V} (hc:cloVs [a0,a1,a2]=true) (h:aSo C a0 a1 a2 ⟨0,.nil⟩ fun v0 S0=>bX S0 v0=.ok v):Fv 105 [a0,a1,a2] v:=Go.AM.Fn.of (p:=bC 105) (lv:=bE 105) (by kernel_rfl) hc (by rw [t105];exact h)
theorem t106 (C:aD) (a0 a1:V) (S:St) (K:KW):aM prog C (bC 106) (bE 106) 106 [a0,a1] S K=aSq C a0 a1 S K:=congrFun (congrFun (congrFun (congrFun (congrFun aSr C) a0) a1) S) K
theorem bKt {a0 a1:V} {S:St} {K:KW} (h:aSq C a0 a1 S K):C 106 [a0,a1] S K:=kV (p:=bC 106) (lv:=bE 106) (by kernel_rfl) (by rw [t106];exact h)
theorem t107 (C:aD) (a0 a1 a2 a3:V) (S:St) (K:KW):aM prog C (bC 107) (bE 107) 107 [a0,a1,a2,a3] S K=aSs C a0 a1 a2 a3 S K:=congrFun (congrFun (congrFun (congrFun (congrFun (congrFun (congrFun aSt C) a0) a1) a2) a3) S) K
theorem bKu {a0 a1 a2 a3:V} {v:V} (hc:cloVs [a0,a1,a2,a3]=true) (h:aSs C a0 a1 a2 a3 ⟨0,.nil⟩ fun v0 S0=>bX S0 v0=.ok v):Fv 107 [a0,a1,a2,a3] v:=Go.AM.Fn.of (p:=bC 107) (lv:=bE 107) (by kernel_rfl) hc (by rw [t107];exact h)
theorem t123 (C:aD) (a0:V) (S:St) (K:KW):aM prog C (bC 123) (bE 123) 123 [a0] S K=aSu C a0 S K:=congrFun (congrFun (congrFun (congrFun aSv C) a0) S) K
theorem bKv {a0:V} {v:V} (hc:cloVs [a0]=true) (h:aSu C a0 ⟨0,.nil⟩ fun v0 S0=>bX S0 v0=.ok v):Fv 123 [a0] v:=Go.AM.Fn.of (p:=bC 123) (lv:=bE 123) (by kernel_rfl) hc (by rw [t123];exact h)
theorem t124 (C:aD) (a0 a1:V) (S:St) (K:KW):aM prog C (bC 124) (bE 124) 124 [a0,a1] S K=aSw C a0 a1 S K:=congrFun (congrFun (congrFun (congrFun (congrFun aSx C) a0) a1) S) K
theorem bKw {a0 a1:V} {v:V} (hc:cloVs [a0,a1]=true) (h:aSw C a0 a1 ⟨0,.nil⟩ fun v0 S0=>bX S0 v0=.ok v):Fv 124 [a0,a1] v:=Go.AM.Fn.of (p:=bC 124) (lv:=bE 124) (by kernel_rfl) hc (by rw [t124];exact h)
theorem t125 (C:aD) (a0 a1:V) (S:St) (K:KW):aM prog C (bC 125) (bE 125) 125 [a0,a1] S K=aSy C a0 a1 S K:=congrFun (congrFun (congrFun (congrFun (congrFun aSz C) a0) a1) S) K
theorem bKx {a0 a1:V} {S:St} {K:KW} (h:aSy C a0 a1 S K):C 125 [a0,a1] S K:=kV (p:=bC 125) (lv:=bE 125) (by kernel_rfl) (by rw [t125];exact h)
theorem t128 (C:aD) (a0:V) (S:St) (K:KW):aM prog C (bC 128) (bE 128) 128 [a0] S K=aT0 C a0 S K:=congrFun (congrFun (congrFun (congrFun aT1 C) a0) S) K
theorem bKy {a0:V} {v:V} (hc:cloVs [a0]=true) (h:aT0 C a0 ⟨0,.nil⟩ fun v0 S0=>bX S0 v0=.ok v):Fv 128 [a0] v:=Go.AM.Fn.of (p:=bC 128) (lv:=bE 128) (by kernel_rfl) hc (by rw [t128];exact h)
theorem t129 (C:aD) (a0 a1:V) (S:St) (K:KW):aM prog C (bC 129) (bE 129) 129 [a0,a1] S K=aT2 C a0 a1 S K:=congrFun (congrFun (congrFun (congrFun (congrFun aT3 C) a0) a1) S) K
theorem bKz {a0 a1:V} {v:V} (hc:cloVs [a0,a1]=true) (h:aT2 C a0 a1 ⟨0,.nil⟩ fun v0 S0=>bX S0 v0=.ok v):Fv 129 [a0,a1] v:=Go.AM.Fn.of (p:=bC 129) (lv:=bE 129) (by kernel_rfl) hc (by rw [t129];exact h)
theorem t130 (C:aD) (a0 a1:V) (S:St) (K:KW):aM prog C (bC 130) (bE 130) 130 [a0,a1] S K=aT4 C a0 a1 S K:=congrFun (congrFun (congrFun (congrFun (congrFun aT5 C) a0) a1) S) K
theorem bL0 {a0 a1:V} {v:V} (hc:cloVs [a0,a1]=true) (h:aT4 C a0 a1 ⟨0,.nil⟩ fun v0 S0=>bX S0 v0=.ok v):Fv 130 [a0,a1] v:=Go.AM.Fn.of (p:=bC 130) (lv:=bE 130) (by kernel_rfl) hc (by rw [t130];exact h)
theorem bEi:uN 130=some (.val (bC 130)):=by kernel_rfl
theorem t131 (C:aD) (a0:V) (S:St) (K:KW):aM prog C (bC 131) (bE 131) 131 [a0] S K=aT6 C a0 S K:=congrFun (congrFun (congrFun (congrFun aT7 C) a0) S) K
theorem bL1 {a0:V} {v:V} (hc:cloVs [a0]=true) (h:aT6 C a0 ⟨0,.nil⟩ fun v0 S0=>bX S0 v0=.ok v):Fv 131 [a0] v:=Go.AM.Fn.of (p:=bC 131) (lv:=bE 131) (by kernel_rfl) hc (by rw [t131];exact h)
theorem t132 (C:aD) (a0 a1:V) (S:St) (K:KW):aM prog C (bC 132) (bE 132) 132 [a0,a1] S K=aT8 C a0 a1 S K:=congrFun (congrFun (congrFun (congrFun (congrFun aT9 C) a0) a1) S) K
theorem bL2 {a0 a1:V} {v:V} (hc:cloVs [a0,a1]=true) (h:aT8 C a0 a1 ⟨0,.nil⟩ fun v0 S0=>bX S0 v0=.ok v):Fv 132 [a0,a1] v:=Go.AM.Fn.of (p:=bC 132) (lv:=bE 132) (by kernel_rfl) hc (by rw [t132];exact h)
theorem t152 (C:aD) (a0 a1:V) (S:St) (K:KW):aM prog C (bC 152) (bE 152) 152 [a0,a1] S K=aZb C a0 a1 S K:=congrFun (congrFun (congrFun (congrFun (congrFun aTa C) a0) a1) S) K
theorem bEj:uN 152=some (.val (bC 152)):=by kernel_rfl
theorem t155 (C:aD) (a0 a1:V) (S:St) (K:KW):aM prog C (bC 155) (bE 155) 155 [a0,a1] S K=aZc C a0 a1 S K:=congrFun (congrFun (congrFun (congrFun (congrFun aTb C) a0) a1) S) K
theorem bEk:uN 155=some (.val (bC 155)):=by kernel_rfl
theorem t157 (C:aD) (a0:V) (S:St) (K:KW):aM prog C (bC 157) (bE 157) 157 [a0] S K=aTc C a0 S K:=congrFun (congrFun (congrFun (congrFun aTd C) a0) S) K
theorem bL3 {a0:V} {v:V} (hc:cloVs [a0]=true) (h:aTc C a0 ⟨0,.nil⟩ fun v0 S0=>bX S0 v0=.ok v):Fv 157 [a0] v:=Go.AM.Fn.of (p:=bC 157) (lv:=bE 157) (by kernel_rfl) hc (by rw [t157];exact h)
theorem t158 (C:aD) (a0 a1:V) (S:St) (K:KW):aM prog C (bC 158) (bE 158) 158 [a0,a1] S K=aTe C a0 a1 S K:=congrFun (congrFun (congrFun (congrFun (congrFun aTf C) a0) a1) S) K
theorem bL4 {a0 a1:V} {v:V} (hc:cloVs [a0,a1]=true) (h:aTe C a0 a1 ⟨0,.nil⟩ fun v0 S0=>bX S0 v0=.ok v):Fv 158 [a0,a1] v:=Go.AM.Fn.of (p:=bC 158) (lv:=bE 158) (by kernel_rfl) hc (by rw [t158];exact h)
theorem bEl:uN 158=some (.val (bC 158)):=by kernel_rfl
theorem t163 (C:aD) (a0:V) (S:St) (K:KW):aM prog C (bC 163) (bE 163) 163 [a0] S K=aTg C a0 S K:=congrFun (congrFun (congrFun (congrFun aTh C) a0) S) K
theorem bL5 {a0:V} {v:V} (hc:cloVs [a0]=true) (h:aTg C a0 ⟨0,.nil⟩ fun v0 S0=>bX S0 v0=.ok v):Fv 163 [a0] v:=Go.AM.Fn.of (p:=bC 163) (lv:=bE 163) (by kernel_rfl) hc (by rw [t163];exact h)
theorem t164 (C:aD) (a0 a1:V) (S:St) (K:KW):aM prog C (bC 164) (bE 164) 164 [a0,a1] S K=aTi C a0 a1 S K:=congrFun (congrFun (congrFun (congrFun (congrFun aTj C) a0) a1) S) K
theorem bL6 {a0 a1:V} {v:V} (hc:cloVs [a0,a1]=true) (h:aTi C a0 a1 ⟨0,.nil⟩ fun v0 S0=>bX S0 v0=.ok v):Fv 164 [a0,a1] v:=Go.AM.Fn.of (p:=bC 164) (lv:=bE 164) (by kernel_rfl) hc (by rw [t164];exact h)
theorem t165 (C:aD) (a0:V) (S:St) (K:KW):aM prog C (bC 165) (bE 165) 165 [a0] S K=aTk C a0 S K:=congrFun (congrFun (congrFun (congrFun aTl C) a0) S) K
theorem bL7 {a0:V} {v:V} (hc:cloVs [a0]=true) (h:aTk C a0 ⟨0,.nil⟩ fun v0 S0=>bX S0 v0=.ok v):Fv 165 [a0] v:=Go.AM.Fn.of (p:=bC 165) (lv:=bE 165) (by kernel_rfl) hc (by rw [t165];exact h)
theorem t166 (C:aD) (a0:V) (S:St) (K:KW):aM prog C (bC 166) (bE 166) 166 [a0] S K=aTm C a0 S K:=congrFun (congrFun (congrFun (congrFun aTn C) a0) S) K
theorem bL8 {a0:V} {v:V} (hc:cloVs [a0]=true) (h:aTm C a0 ⟨0,.nil⟩ fun v0 S0=>bX S0 v0=.ok v):Fv 166 [a0] v:=Go.AM.Fn.of (p:=bC 166) (lv:=bE 166) (by kernel_rfl) hc (by rw [t166];exact h)
theorem t167 (C:aD) (a0:V) (S:St) (K:KW):aM prog C (bC 167) (bE 167) 167 [a0] S K=aTo C a0 S K:=congrFun (congrFun (congrFun (congrFun aTp C) a0) S) K
theorem bL9 {a0:V} {v:V} (hc:cloVs [a0]=true) (h:aTo C a0 ⟨0,.nil⟩ fun v0 S0=>bX S0 v0=.ok v):Fv 167 [a0] v:=Go.AM.Fn.of (p:=bC 167) (lv:=bE 167) (by kernel_rfl) hc (by rw [t167];exact h)
theorem bLa (C:aD) (a0 a1:V) (S:St) (K:KW):aM prog C (bC 168) (bE 168) 168 [a0,a1] S K=aTq C a0 a1 S K:=congrFun (congrFun (congrFun (congrFun (congrFun aTr C) a0) a1) S) K
theorem bLb {a0 a1:V} {v:V} (hc:cloVs [a0,a1]=true) (h:aTq C a0 a1 ⟨0,.nil⟩ fun v0 S0=>bX S0 v0=.ok v):Fv 168 [a0,a1] v:=Go.AM.Fn.of (p:=bC 168) (lv:=bE 168) (by kernel_rfl) hc (by rw [bLa];exact h)
theorem bEm:uN 168=some (.val (bC 168)):=by kernel_rfl
theorem t169 (C:aD) (a0 a1:V) (S:St) (K:KW):aM prog C (bC 169) (bE 169) 169 [a0,a1] S K=aTs C a0 a1 S K:=congrFun (congrFun (congrFun (congrFun (congrFun aTt C) a0) a1) S) K
theorem bLc {a0 a1:V} {v:V} (hc:cloVs [a0,a1]=true) (h:aTs C a0 a1 ⟨0,.nil⟩ fun v0 S0=>bX S0 v0=.ok v):Fv 169 [a0,a1] v:=Go.AM.Fn.of (p:=bC 169) (lv:=bE 169) (by kernel_rfl) hc (by rw [t169];exact h)
theorem t170 (C:aD) (a0 a1:V) (S:St) (K:KW):aM prog C (bC 170) (bE 170) 170 [a0,a1] S K=aZd C a0 a1 S K:=congrFun (congrFun (congrFun (congrFun (congrFun aTu C) a0) a1) S) K
theorem bEn:uN 170=some (.val (bC 170)):=by kernel_rfl
theorem bLd (C:aD) (a0 a1:V) (S:St) (K:KW):aM prog C (bC 173) (bE 173) 173 [a0,a1] S K=aTv C a0 a1 S K:=congrFun (congrFun (congrFun (congrFun (congrFun aTw C) a0) a1) S) K
theorem bLe {a0 a1:V} {v:V} (hc:cloVs [a0,a1]=true) (h:aTv C a0 a1 ⟨0,.nil⟩ fun v0 S0=>bX S0 v0=.ok v):Fv 173 [a0,a1] v:=Go.AM.Fn.of (p:=bC 173) (lv:=bE 173) (by kernel_rfl) hc (by rw [bLd];exact h)
theorem bLf (C:aD) (a0 a1:V) (S:St) (K:KW):aM prog C (bC 174) (bE 174) 174 [a0,a1] S K=aTx C a0 a1 S K:=congrFun (congrFun (congrFun (congrFun (congrFun aTy C) a0) a1) S) K
theorem bLg {a0 a1:V} {v:V} (hc:cloVs [a0,a1]=true) (h:aTx C a0 a1 ⟨0,.nil⟩ fun v0 S0=>bX S0 v0=.ok v):Fv 174 [a0,a1] v:=Go.AM.Fn.of (p:=bC 174) (lv:=bE 174) (by kernel_rfl) hc (by rw [bLf];exact h)
theorem bEo:uN 174=some (.val (bC 174)):=by kernel_rfl
theorem bLh (C:aD) (a0 a1 a2:V) (S:St) (K:KW):aM prog C (bC 175) (bE 175) 175 [a0,a1,a2] S K=aTz C a0 a1 a2 S K:=congrFun (congrFun (congrFun (congrFun (congrFun (congrFun aU0 C) a0) a1) a2) S) K
theorem bLi {a0 a1 a2:V} {v:V} (hc:cloVs [a0,a1,a2]=true) (h:aTz C a0 a1 a2 ⟨0,.nil⟩ fun v0 S0=>bX S0 v0=.ok v):Fv 175 [a0,a1,a2] v:=Go.AM.Fn.of (p:=bC 175) (lv:=bE 175) (by kernel_rfl) hc (by rw [bLh];exact h)
theorem bLj (C:aD) (a0 a1 a2:V) (S:St) (K:KW):aM prog C (bC 176) (bE 176) 176 [a0,a1,a2] S K=aQ3 C a0 a1 a2 S K:=congrFun (congrFun (congrFun (congrFun (congrFun (congrFun aU1 C) a0) a1) a2) S) K
theorem bLk {a0 a1 a2:V} {S:St} {K:KW} (h:aQ3 C a0 a1 a2 S K):C 176 [a0,a1,a2] S K:=kV (p:=bC 176) (lv:=bE 176) (by kernel_rfl) (by rw [bLj];exact h)
theorem bLl (C:aD) (a0 a1:V) (S:St) (K:KW):aM prog C (bC 177) (bE 177) 177 [a0,a1] S K=aU2 C a0 a1 S K:=congrFun (congrFun (congrFun (congrFun (congrFun aU3 C) a0) a1) S) K
theorem bLm {a0 a1:V} {v:V} (hc:cloVs [a0,a1]=true) (h:aU2 C a0 a1 ⟨0,.nil⟩ fun v0 S0=>bX S0 v0=.ok v):Fv 177 [a0,a1] v:=Go.AM.Fn.of (p:=bC 177) (lv:=bE 177) (by kernel_rfl) hc (by rw [bLl];exact h)
theorem bLn (C:aD) (a0 a1:V) (S:St) (K:KW):aM prog C (bC 178) (bE 178) 178 [a0,a1] S K=aU4 C a0 a1 S K:=congrFun (congrFun (congrFun (congrFun (congrFun aU5 C) a0) a1) S) K
theorem bLo {a0 a1:V} {v:V} (hc:cloVs [a0,a1]=true) (h:aU4 C a0 a1 ⟨0,.nil⟩ fun v0 S0=>bX S0 v0=.ok v):Fv 178 [a0,a1] v:=Go.AM.Fn.of (p:=bC 178) (lv:=bE 178) (by kernel_rfl) hc (by rw [bLn];exact h)
theorem bLp (C:aD) (a0 a1 a2:V) (S:St) (K:KW):aM prog C (bC 179) (bE 179) 179 [a0,a1,a2] S K=aQ4 C a0 a1 a2 S K:=congrFun (congrFun (congrFun (congrFun (congrFun (congrFun aU6 C) a0) a1) a2) S) K
theorem bLq {a0 a1 a2:V} {S:St} {K:KW} (h:aQ4 C a0 a1 a2 S K):C 179 [a0,a1,a2] S K:=kV (p:=bC 179) (lv:=bE 179) (by kernel_rfl) (by rw [bLp];exact h)
theorem bLr (C:aD) (a0 a1:V) (S:St) (K:KW):aM prog C (bC 180) (bE 180) 180 [a0,a1] S K=aU7 C a0 a1 S K:=congrFun (congrFun (congrFun (congrFun (congrFun aU8 C) a0) a1) S) K
theorem bLs {a0 a1:V} {S:St} {K:KW} (h:aU7 C a0 a1 S K):C 180 [a0,a1] S K:=kV (p:=bC 180) (lv:=bE 180) (by kernel_rfl) (by rw [bLr];exact h)
theorem bLt (C:aD) (a0 a1:V) (S:St) (K:KW):aM prog C (bC 181) (bE 181) 181 [a0,a1] S K=aU9 C a0 a1 S K:=congrFun (congrFun (congrFun (congrFun (congrFun aUa C) a0) a1) S) K
theorem bLu {a0 a1:V} {S:St} {K:KW} (h:aU9 C a0 a1 S K):C 181 [a0,a1] S K:=kV (p:=bC 181) (lv:=bE 181) (by kernel_rfl) (by rw [bLt];exact h)
theorem bLv (C:aD) (a0 a1:V) (S:St) (K:KW):aM prog C (bC 182) (bE 182) 182 [a0,a1] S K=aUb C a0 a1 S K:=congrFun (congrFun (congrFun (congrFun (congrFun aUc C) a0) a1) S) K
theorem bLw {a0 a1:V} {v:V} (hc:cloVs [a0,a1]=true) (h:aUb C a0 a1 ⟨0,.nil⟩ fun v0 S0=>bX S0 v0=.ok v):Fv 182 [a0,a1] v:=Go.AM.Fn.of (p:=bC 182) (lv:=bE 182) (by kernel_rfl) hc (by rw [bLv];exact h)
theorem bLx (C:aD) (a0 a1 a2:V) (S:St) (K:KW):aM prog C (bC 183) (bE 183) 183 [a0,a1,a2] S K=aQ5 C a0 a1 a2 S K:=congrFun (congrFun (congrFun (congrFun (congrFun (congrFun aUd C) a0) a1) a2) S) K
theorem bLy {a0 a1 a2:V} {S:St} {K:KW} (h:aQ5 C a0 a1 a2 S K):C 183 [a0,a1,a2] S K:=kV (p:=bC 183) (lv:=bE 183) (by kernel_rfl) (by rw [bLx];exact h)
theorem bLz (C:aD) (a0 a1:V) (S:St) (K:KW):aM prog C (bC 184) (bE 184) 184 [a0,a1] S K=aUe C a0 a1 S K:=congrFun (congrFun (congrFun (congrFun (congrFun aUf C) a0) a1) S) K
theorem bM0 {a0 a1:V} {S:St} {K:KW} (h:aUe C a0 a1 S K):C 184 [a0,a1] S K:=kV (p:=bC 184) (lv:=bE 184) (by kernel_rfl) (by rw [bLz];exact h)
theorem bM1 (C:aD) (a0:V) (S:St) (K:KW):aM prog C (bC 200) (bE 200) 200 [a0] S K=aUg C a0 S K:=congrFun (congrFun (congrFun (congrFun aUh C) a0) S) K
theorem bM2 {a0:V} {v:V} (hc:cloVs [a0]=true) (h:aUg C a0 ⟨0,.nil⟩ fun v0 S0=>bX S0 v0=.ok v):Fv 200 [a0] v:=Go.AM.Fn.of (p:=bC 200) (lv:=bE 200) (by kernel_rfl) hc (by rw [bM1];exact h)
theorem bM3 (C:aD) (a0 a1:V) (S:St) (K:KW):aM prog C (bC 201) (bE 201) 201 [a0,a1] S K=aUi C a0 a1 S K:=congrFun (congrFun (congrFun (congrFun (congrFun aUj C) a0) a1) S) K
theorem bM4 {a0 a1:V} {v:V} (hc:cloVs [a0,a1]=true) (h:aUi C a0 a1 ⟨0,.nil⟩ fun v0 S0=>bX S0 v0=.ok v):Fv 201 [a0,a1] v:=Go.AM.Fn.of (p:=bC 201) (lv:=bE 201) (by kernel_rfl) hc (by rw [bM3];exact h)
theorem bM5 (C:aD) (a0 a1:V) (S:St) (K:KW):aM prog C (bC 203) (bE 203) 203 [a0,a1] S K=aUk C a0 a1 S K:=congrFun (congrFun (congrFun (congrFun (congrFun aUl C) a0) a1) S) K
theorem bM6 {a0 a1:V} {v:V} (hc:cloVs [a0,a1]=true) (h:aUk C a0 a1 ⟨0,.nil⟩ fun v0 S0=>bX S0 v0=.ok v):Fv 203 [a0,a1] v:=Go.AM.Fn.of (p:=bC 203) (lv:=bE 203) (by kernel_rfl) hc (by rw [bM5];exact h)
theorem bM7 (C:aD) (a0:V) (S:St) (K:KW):aM prog C (bC 204) (bE 204) 204 [a0] S K=aUm C a0 S K:=congrFun (congrFun (congrFun (congrFun aUn C) a0) S) K
theorem bM8 {a0:V} {v:V} (hc:cloVs [a0]=true) (h:aUm C a0 ⟨0,.nil⟩ fun v0 S0=>bX S0 v0=.ok v):Fv 204 [a0] v:=Go.AM.Fn.of (p:=bC 204) (lv:=bE 204) (by kernel_rfl) hc (by rw [bM7];exact h)
theorem bM9 (C:aD) (a0 a1:V) (S:St) (K:KW):aM prog C (bC 217) (bE 217) 217 [a0,a1] S K=aUo C a0 a1 S K:=congrFun (congrFun (congrFun (congrFun (congrFun aUp C) a0) a1) S) K
theorem bMa {a0 a1:V} {v:V} (hc:cloVs [a0,a1]=true) (h:aUo C a0 a1 ⟨0,.nil⟩ fun v0 S0=>bX S0 v0=.ok v):Fv 217 [a0,a1] v:=Go.AM.Fn.of (p:=bC 217) (lv:=bE 217) (by kernel_rfl) hc (by rw [bM9];exact h)
theorem bMb (C:aD) (a0:V) (S:St) (K:KW):aM prog C (bC 218) (bE 218) 218 [a0] S K=aUq C a0 S K:=congrFun (congrFun (congrFun (congrFun aUr C) a0) S) K
theorem bMc {a0:V} {v:V} (hc:cloVs [a0]=true) (h:aUq C a0 ⟨0,.nil⟩ fun v0 S0=>bX S0 v0=.ok v):Fv 218 [a0] v:=Go.AM.Fn.of (p:=bC 218) (lv:=bE 218) (by kernel_rfl) hc (by rw [bMb];exact h)
theorem bEp:uN 218=some (.val (bC 218)):=by kernel_rfl
theorem bMd (C:aD) (a0 a1:V) (S:St) (K:KW):aM prog C (bC 219) (bE 219) 219 [a0,a1] S K=aUs C a0 a1 S K:=congrFun (congrFun (congrFun (congrFun (congrFun aUt C) a0) a1) S) K
theorem bMe {a0 a1:V} {v:V} (hc:cloVs [a0,a1]=true) (h:aUs C a0 a1 ⟨0,.nil⟩ fun v0 S0=>bX S0 v0=.ok v):Fv 219 [a0,a1] v:=Go.AM.Fn.of (p:=bC 219) (lv:=bE 219) (by kernel_rfl) hc (by rw [bMd];exact h)
theorem bMf (C:aD) (a0:V) (S:St) (K:KW):aM prog C (bC 220) (bE 220) 220 [a0] S K=aUu C a0 S K:=congrFun (congrFun (congrFun (congrFun aUv C) a0) S) K
theorem bMg {a0:V} {v:V} (hc:cloVs [a0]=true) (h:aUu C a0 ⟨0,.nil⟩ fun v0 S0=>bX S0 v0=.ok v):Fv 220 [a0] v:=Go.AM.Fn.of (p:=bC 220) (lv:=bE 220) (by kernel_rfl) hc (by rw [bMf];exact h)
theorem bMh (C:aD) (a0:V) (S:St) (K:KW):aM prog C (bC 225) (bE 225) 225 [a0] S K=aUw C a0 S K:=congrFun (congrFun (congrFun (congrFun aUx C) a0) S) K
theorem bMi {a0:V} {v:V} (hc:cloVs [a0]=true) (h:aUw C a0 ⟨0,.nil⟩ fun v0 S0=>bX S0 v0=.ok v):Fv 225 [a0] v:=Go.AM.Fn.of (p:=bC 225) (lv:=bE 225) (by kernel_rfl) hc (by rw [bMh];exact h)
theorem bMj (C:aD) (a0:V) (S:St) (K:KW):aM prog C (bC 226) (bE 226) 226 [a0] S K=aUy C a0 S K:=congrFun (congrFun (congrFun (congrFun aUz C) a0) S) K
theorem bMk {a0:V} {v:V} (hc:cloVs [a0]=true) (h:aUy C a0 ⟨0,.nil⟩ fun v0 S0=>bX S0 v0=.ok v):Fv 226 [a0] v:=Go.AM.Fn.of (p:=bC 226) (lv:=bE 226) (by kernel_rfl) hc (by rw [bMj];exact h)
theorem bMl (C:aD) (a0 a1:V) (S:St) (K:KW):aM prog C (bC 227) (bE 227) 227 [a0,a1] S K=aZe C a0 a1 S K:=congrFun (congrFun (congrFun (congrFun (congrFun aV0 C) a0) a1) S) K
theorem bEq:uN 227=some (.val (bC 227)):=by kernel_rfl
theorem bMm (C:aD) (a0:V) (S:St) (K:KW):aM prog C (bC 228) (bE 228) 228 [a0] S K=aV1 C a0 S K:=congrFun (congrFun (congrFun (congrFun aV2 C) a0) S) K
theorem bMn {a0:V} {v:V} (hc:cloVs [a0]=true) (h:aV1 C a0 ⟨0,.nil⟩ fun v0 S0=>bX S0 v0=.ok v):Fv 228 [a0] v:=Go.AM.Fn.of (p:=bC 228) (lv:=bE 228) (by kernel_rfl) hc (by rw [bMm];exact h)
theorem bMo (C:aD) (a0 a1:V) (S:St) (K:KW):aM prog C (bC 229) (bE 229) 229 [a0,a1] S K=aV3 C a0 a1 S K:=congrFun (congrFun (congrFun (congrFun (congrFun aV4 C) a0) a1) S) K
theorem bMp {a0 a1:V} {v:V} (hc:cloVs [a0,a1]=true) (h:aV3 C a0 a1 ⟨0,.nil⟩ fun v0 S0=>bX S0 v0=.ok v):Fv 229 [a0,a1] v:=Go.AM.Fn.of (p:=bC 229) (lv:=bE 229) (by kernel_rfl) hc (by rw [bMo];exact h)
theorem bMq (C:aD) (a0 a1:V) (S:St) (K:KW):aM prog C (bC 231) (bE 231) 231 [a0,a1] S K=aZf C a0 a1 S K:=congrFun (congrFun (congrFun (congrFun (congrFun aV5 C) a0) a1) S) K
theorem bEr:uN 231=some (.val (bC 231)):=by kernel_rfl
theorem bMr (C:aD) (a0 a1:V) (S:St) (K:KW):aM prog C (bC 232) (bE 232) 232 [a0,a1] S K=aZg C a0 a1 S K:=congrFun (congrFun (congrFun (congrFun (congrFun aV6 C) a0) a1) S) K
theorem bEs:uN 232=some (.val (bC 232)):=by kernel_rfl
theorem bMs (C:aD) (a0 a1:V) (S:St) (K:KW):aM prog C (bC 233) (bE 233) 233 [a0,a1] S K=aV7 C a0 a1 S K:=congrFun (congrFun (congrFun (congrFun (congrFun aV8 C) a0) a1) S) K
theorem bMt {a0 a1:V} {v:V} (hc:cloVs [a0,a1]=true) (h:aV7 C a0 a1 ⟨0,.nil⟩ fun v0 S0=>bX S0 v0=.ok v):Fv 233 [a0,a1] v:=Go.AM.Fn.of (p:=bC 233) (lv:=bE 233) (by kernel_rfl) hc (by rw [bMs];exact h)
theorem bMu (C:aD) (a0:V) (S:St) (K:KW):aM prog C (bC 235) (bE 235) 235 [a0] S K=aV9 C a0 S K:=congrFun (congrFun (congrFun (congrFun aVa C) a0) S) K
theorem bMv {a0:V} {S:St} {K:KW} (hc:cloVs [a0]=true) (h:aV9 C a0 ⟨0,.nil⟩ fun v0 S0=>wR (pD [0] v0 S0 S) fun r=>K r.1 r.2):C 235 [a0] S K:=aY0 (p:=bC 235) (lv:=bE 235) (by kernel_rfl) hc (by rw [bMu];exact h)
theorem bMw (C:aD) (a0 a1:V) (S:St) (K:KW):aM prog C (bC 236) (bE 236) 236 [a0,a1] S K=aVb C a0 a1 S K:=congrFun (congrFun (congrFun (congrFun (congrFun aVc C) a0) a1) S) K
theorem bMx {a0 a1:V} {v:V} (hc:cloVs [a0,a1]=true) (h:aVb C a0 a1 ⟨0,.nil⟩ fun v0 S0=>bX S0 v0=.ok v):Fv 236 [a0,a1] v:=Go.AM.Fn.of (p:=bC 236) (lv:=bE 236) (by kernel_rfl) hc (by rw [bMw];exact h)
theorem bMy (C:aD) (a0 a1 a2:V) (S:St) (K:KW):aM prog C (bC 238) (bE 238) 238 [a0,a1,a2] S K=aVd C a0 a1 a2 S K:=congrFun (congrFun (congrFun (congrFun (congrFun (congrFun aVe C) a0) a1) a2) S) K
theorem bMz {a0 a1 a2:V} {v:V} (hc:cloVs [a0,a1,a2]=true) (h:aVd C a0 a1 a2 ⟨0,.nil⟩ fun v0 S0=>bX S0 v0=.ok v):Fv 238 [a0,a1,a2] v:=Go.AM.Fn.of (p:=bC 238) (lv:=bE 238) (by kernel_rfl) hc (by rw [bMy];exact h)
theorem bN0 (C:aD) (a0 a1 a2:V) (S:St) (K:KW):aM prog C (bC 239) (bE 239) 239 [a0,a1,a2] S K=aVf C a0 a1 a2 S K:=congrFun (congrFun (congrFun (congrFun (congrFun (congrFun aVg C) a0) a1) a2) S) K
theorem bN1 {a0 a1 a2:V} {S:St} {K:KW} (h:aVf C a0 a1 a2 S K):C 239 [a0,a1,a2] S K:=kV (p:=bC 239) (lv:=bE 239) (by kernel_rfl) (by rw [bN0];exact h)
theorem bN2 (C:aD) (a0 a1:V) (S:St) (K:KW):aM prog C (bC 241) (bE 241) 241 [a0,a1] S K=aVh C a0 a1 S K:=congrFun (congrFun (congrFun (congrFun (congrFun aVi C) a0) a1) S) K
theorem bN3 {a0 a1:V} {v:V} (hc:cloVs [a0,a1]=true) (h:aVh C a0 a1 ⟨0,.nil⟩ fun v0 S0=>bX S0 v0=.ok v):Fv 241 [a0,a1] v:=Go.AM.Fn.of (p:=bC 241) (lv:=bE 241) (by kernel_rfl) hc (by rw [bN2];exact h)
theorem bN4 (C:aD) (a0 a1 a2:V) (S:St) (K:KW):aM prog C (bC 254) (bE 254) 254 [a0,a1,a2] S K=aVj C a0 a1 a2 S K:=congrFun (congrFun (congrFun (congrFun (congrFun (congrFun aVk C) a0) a1) a2) S) K
theorem bN5 {a0 a1 a2:V} {v:V} (hc:cloVs [a0,a1,a2]=true) (h:aVj C a0 a1 a2 ⟨0,.nil⟩ fun v0 S0=>bX S0 v0=.ok v):Fv 254 [a0,a1,a2] v:=Go.AM.Fn.of (p:=bC 254) (lv:=bE 254) (by kernel_rfl) hc (by rw [bN4];exact h)
theorem bN6 (C:aD) (a0:V) (S:St) (K:KW):aM prog C (bC 259) (bE 259) 259 [a0] S K=aQ6 C a0 S K:=congrFun (congrFun (congrFun (congrFun aVl C) a0) S) K
theorem bEt {a0:V} {S:St} {K:KW} (h:aQ6 C a0 S K):C 259 [a0] S K:=kV (p:=bC 259) (lv:=bE 259) (by kernel_rfl) (by rw [bN6];exact h)
theorem bN7 (C:aD) (a0 a1:V) (S:St) (K:KW):aM prog C (bC 260) (bE 260) 260 [a0,a1] S K=aVm C a0 a1 S K:=congrFun (congrFun (congrFun (congrFun (congrFun aVn C) a0) a1) S) K
theorem bN8 {a0 a1:V} {v:V} (hc:cloVs [a0,a1]=true) (h:aVm C a0 a1 ⟨0,.nil⟩ fun v0 S0=>bX S0 v0=.ok v):Fv 260 [a0,a1] v:=Go.AM.Fn.of (p:=bC 260) (lv:=bE 260) (by kernel_rfl) hc (by rw [bN7];exact h)
theorem bN9 (C:aD) (a0 a1:V) (S:St) (K:KW):aM prog C (bC 263) (bE 263) 263 [a0,a1] S K=aZh C a0 a1 S K:=congrFun (congrFun (congrFun (congrFun (congrFun aVo C) a0) a1) S) K
theorem bEu:uN 263=some (.val (bC 263)):=by kernel_rfl
theorem bNa (C:aD) (a0 a1 a2:V) (S:St) (K:KW):aM prog C (bC 268) (bE 268) 268 [a0,a1,a2] S K=aVp C a0 a1 a2 S K:=congrFun (congrFun (congrFun (congrFun (congrFun (congrFun aVq C) a0) a1) a2) S) K
theorem bNb {a0 a1 a2:V} {v:V} (hc:cloVs [a0,a1,a2]=true) (h:aVp C a0 a1 a2 ⟨0,.nil⟩ fun v0 S0=>bX S0 v0=.ok v):Fv 268 [a0,a1,a2] v:=Go.AM.Fn.of (p:=bC 268) (lv:=bE 268) (by kernel_rfl) hc (by rw [bNa];exact h)
theorem bNc (C:aD) (a0 a1 a2 a3:V) (S:St) (K:KW):aM prog C (bC 269) (bE 269) 269 [a0,a1,a2,a3] S K=aVr C a0 a1 a2 a3 S K:=congrFun (congrFun (congrFun (congrFun (congrFun (congrFun (congrFun aVs C) a0) a1) a2) a3) S) K
theorem bNd {a0 a1 a2 a3:V} {S:St} {K:KW} (h:aVr C a0 a1 a2 a3 S K):C 269 [a0,a1,a2,a3] S K:=kV (p:=bC 269) (lv:=bE 269) (by kernel_rfl) (by rw [bNc];exact h)
theorem bNe (C:aD) (a0:V) (S:St) (K:KW):aM prog C (bC 270) (bE 270) 270 [a0] S K=aVt C a0 S K:=congrFun (congrFun (congrFun (congrFun aVu C) a0) S) K
theorem bNf {a0:V} {S:St} {K:KW} (h:aVt C a0 S K):C 270 [a0] S K:=kV (p:=bC 270) (lv:=bE 270) (by kernel_rfl) (by rw [bNe];exact h)
theorem bNg (C:aD) (a0 a1:V) (S:St) (K:KW):aM prog C (bC 271) (bE 271) 271 [a0,a1] S K=aVv C a0 a1 S K:=congrFun (congrFun (congrFun (congrFun (congrFun aVw C) a0) a1) S) K
theorem bNh {a0 a1:V} {v:V} (hc:cloVs [a0,a1]=true) (h:aVv C a0 a1 ⟨0,.nil⟩ fun v0 S0=>bX S0 v0=.ok v):Fv 271 [a0,a1] v:=Go.AM.Fn.of (p:=bC 271) (lv:=bE 271) (by kernel_rfl) hc (by rw [bNg];exact h)
theorem bNi (C:aD) (a0 a1 a2:V) (S:St) (K:KW):aM prog C (bC 278) (bE 278) 278 [a0,a1,a2] S K=aVx C a0 a1 a2 S K:=congrFun (congrFun (congrFun (congrFun (congrFun (congrFun aVy C) a0) a1) a2) S) K
theorem bNj {a0 a1 a2:V} {v:V} (hc:cloVs [a0,a1,a2]=true) (h:aVx C a0 a1 a2 ⟨0,.nil⟩ fun v0 S0=>bX S0 v0=.ok v):Fv 278 [a0,a1,a2] v:=Go.AM.Fn.of (p:=bC 278) (lv:=bE 278) (by kernel_rfl) hc (by rw [bNi];exact h)
theorem bNk (C:aD) (a0 a1:V) (S:St) (K:KW):aM prog C (bC 279) (bE 279) 279 [a0,a1] S K=aVz C a0 a1 S K:=congrFun (congrFun (congrFun (congrFun (congrFun aW0 C) a0) a1) S) K
theorem bNl {a0 a1:V} {v:V} (hc:cloVs [a0,a1]=true) (h:aVz C a0 a1 ⟨0,.nil⟩ fun v0 S0=>bX S0 v0=.ok v):Fv 279 [a0,a1] v:=Go.AM.Fn.of (p:=bC 279) (lv:=bE 279) (by kernel_rfl) hc (by rw [bNk];exact h)
theorem bNm (C:aD) (a0:V) (S:St) (K:KW):aM prog C (bC 286) (bE 286) 286 [a0] S K=aW1 C a0 S K:=congrFun (congrFun (congrFun (congrFun aW2 C) a0) S) K
theorem bNn {a0:V} {v:V} (hc:cloVs [a0]=true) (h:aW1 C a0 ⟨0,.nil⟩ fun v0 S0=>bX S0 v0=.ok v):Fv 286 [a0] v:=Go.AM.Fn.of (p:=bC 286) (lv:=bE 286) (by kernel_rfl) hc (by rw [bNm];exact h)
theorem bNo (C:aD) (a0 a1:V) (S:St) (K:KW):aM prog C (bC 287) (bE 287) 287 [a0,a1] S K=aW3 C a0 a1 S K:=congrFun (congrFun (congrFun (congrFun (congrFun aW4 C) a0) a1) S) K
theorem bNp {a0 a1:V} {v:V} (hc:cloVs [a0,a1]=true) (h:aW3 C a0 a1 ⟨0,.nil⟩ fun v0 S0=>bX S0 v0=.ok v):Fv 287 [a0,a1] v:=Go.AM.Fn.of (p:=bC 287) (lv:=bE 287) (by kernel_rfl) hc (by rw [bNo];exact h)
end Go.Proofs.YtoaibmbldmckaaaGreat
end
section
namespace Go.AM
open Go.RowKit Go.Lib Go.Proofs Go.Shelf
theorem aBl {P:Program} {t:TypeId} (h:(P.info? t).isSome=true) (w:World):(Go.sizeOf t).run P w=.ok (sz P t) w:=by
 obtain ⟨i,hi⟩:=Option.isSome_iff_exists.1 h
 simp [sizeOf,typeInfo,hi,iJ hi]
theorem jU {P:Program} {t:TypeId} (h:(P.info? t).map (·.size)=some 1) (w:World):(Go.sizeOf t).run P w=.ok 1 w:=by
 cases hi:P.info? t with
 | none=>rw [hi] at h;cases h
 | some i=>rw [hi] at h;simp [sizeOf,typeInfo,hi] at h ⊢;exact h
theorem nY {P:Program} {f:FuncId} {T e I B:TypeId} {ov rr:FuncId} {fn fo:Func} (mixed:P.follows .mixedOrders=true) (hf:P.funcs[f]?=some fn) (hb:fn.body=some (vD T I B ov rr)) (hn:fn.ntmps=95) (hr:fn.results=#[.tmp 6])
  (tT:P.underlying T=some (.slice e)) (tI:P.underlying I=some (.int .i64)) (tB:P.underlying B=some .bool)
  (ho:P.funcs[ov]?=some fo) (o1:(fo.name == "runtime.NumGoroutine")=false) (o2:fo.body.isNone=true) (o3:Extern.findNext fo=none) (o4:Extern.find fo=some (Extern.SlicesOverlaps.overlaps #[T,T] #[B]))
  (zE:(P.info? e).isSome=true) (zT:(P.info? T).map (·.size)=some 1) (zI:(P.info? I).map (·.size)=some 1) (zB:(P.info? B).map (·.size)=some 1):InsAt P f T e I B ov rr fn:=
 ⟨mixed,hf,hb,hn,hr,tT,tI,tB,run_callFunc_extern ho o1 o2 o3 o4,aBl zE,jU zT,jU zI,jU zB⟩
theorem aQ7 {P:Program} {f:FuncId} {T e I B:TypeId} {fn:Func} (mixed:P.follows .mixedOrders=true) (hf:P.funcs[f]?=some fn) (hb:fn.body=some (aA2 T I B)) (hn:fn.ntmps=33) (hr:fn.results=#[.tmp 6])
  (tT:P.underlying T=some (.slice e)) (tI:P.underlying I=some (.int .i64)) (tB:P.underlying B=some .bool)
  (zE:(P.info? e).isSome=true) (zT:(P.info? T).map (·.size)=some 1) (zI:(P.info? I).map (·.size)=some 1) (zB:(P.info? B).map (·.size)=some 1):DelAt P f T e I B fn:=
 ⟨mixed,hf,hb,hn,hr,tT,tI,tB,aBl zE,jU zT,jU zI,jU zB⟩
end Go.AM
end
section
namespace Go.Proofs.YtoaibmbldmckaaaGreat
open Go.RowKit Go.AM Tryz
theorem bEv:SpecOK prog 202 ((Sp.ins 68).run prog):=
 iM (e:=76) (I:=3) (B:=4) (ov:=247) (rr:=248) (fn:=Tryz.f202) (nY (fo:=Tryz.f247) (by kernel_rfl) (by kernel_rfl) (by kernel_rfl) (by kernel_rfl) (by kernel_rfl)
  (by kernel_rfl) (by kernel_rfl) (by kernel_rfl) (by kernel_rfl) (by kernel_rfl) (by kernel_rfl) (by kernel_rfl) (by kernel_rfl) (by kernel_rfl) (by kernel_rfl) (by kernel_rfl) (by kernel_rfl)) (by kernel_rfl)
theorem bEw:SpecOK prog 221 ((Sp.ins 27).run prog):=
 iM (e:=90) (I:=3) (B:=4) (ov:=256) (rr:=257) (fn:=Tryz.f221) (nY (fo:=Tryz.f256) (by kernel_rfl) (by kernel_rfl) (by kernel_rfl) (by kernel_rfl) (by kernel_rfl)
  (by kernel_rfl) (by kernel_rfl) (by kernel_rfl) (by kernel_rfl) (by kernel_rfl) (by kernel_rfl) (by kernel_rfl) (by kernel_rfl) (by kernel_rfl) (by kernel_rfl) (by kernel_rfl) (by kernel_rfl)) (by kernel_rfl)
theorem bEx:SpecOK prog 230 ((Sp.ins 28).run prog):=
 iM (e:=132) (I:=3) (B:=4) (ov:=261) (rr:=262) (fn:=Tryz.f230) (nY (fo:=Tryz.f261) (by kernel_rfl) (by kernel_rfl) (by kernel_rfl) (by kernel_rfl) (by kernel_rfl)
  (by kernel_rfl) (by kernel_rfl) (by kernel_rfl) (by kernel_rfl) (by kernel_rfl) (by kernel_rfl) (by kernel_rfl) (by kernel_rfl) (by kernel_rfl) (by kernel_rfl) (by kernel_rfl) (by kernel_rfl)) (by kernel_rfl)
theorem bEy:SpecOK prog 234 ((Sp.ins 25).run prog):=
 iM (e:=126) (I:=3) (B:=4) (ov:=264) (rr:=265) (fn:=Tryz.f234) (nY (fo:=Tryz.f264) (by kernel_rfl) (by kernel_rfl) (by kernel_rfl) (by kernel_rfl) (by kernel_rfl)
  (by kernel_rfl) (by kernel_rfl) (by kernel_rfl) (by kernel_rfl) (by kernel_rfl) (by kernel_rfl) (by kernel_rfl) (by kernel_rfl) (by kernel_rfl) (by kernel_rfl) (by kernel_rfl) (by kernel_rfl)) (by kernel_rfl)
theorem bEz:SpecOK prog 237 ((Sp.ins 24).run prog):=
 iM (e:=54) (I:=3) (B:=4) (ov:=266) (rr:=267) (fn:=Tryz.f237) (nY (fo:=Tryz.f266) (by kernel_rfl) (by kernel_rfl) (by kernel_rfl) (by kernel_rfl) (by kernel_rfl)
  (by kernel_rfl) (by kernel_rfl) (by kernel_rfl) (by kernel_rfl) (by kernel_rfl) (by kernel_rfl) (by kernel_rfl) (by kernel_rfl) (by kernel_rfl) (by kernel_rfl) (by kernel_rfl) (by kernel_rfl)) (by kernel_rfl)
theorem bF0:SpecOK prog 280 ((Sp.ins 80).run prog):=
 iM (e:=145) (I:=3) (B:=4) (ov:=288) (rr:=289) (fn:=Tryz.f280) (nY (fo:=Tryz.f288) (by kernel_rfl) (by kernel_rfl) (by kernel_rfl) (by kernel_rfl) (by kernel_rfl)
  (by kernel_rfl) (by kernel_rfl) (by kernel_rfl) (by kernel_rfl) (by kernel_rfl) (by kernel_rfl) (by kernel_rfl) (by kernel_rfl) (by kernel_rfl) (by kernel_rfl) (by kernel_rfl) (by kernel_rfl)) (by kernel_rfl)
theorem bF1:SpecOK prog 240 ((Sp.del 28).run prog):=
 aHj (e:=132) (I:=3) (B:=4) (fn:=Tryz.f240) (aQ7 (by kernel_rfl) (by kernel_rfl) (by kernel_rfl) (by kernel_rfl) (by kernel_rfl)
  (by kernel_rfl) (by kernel_rfl) (by kernel_rfl) (by kernel_rfl) (by kernel_rfl) (by kernel_rfl) (by kernel_rfl)) (by kernel_rfl)
theorem hN {P:Program} {a b:hJ} (h:gL P a=true) (k:gL P b=true):gL P (a++b)=true:=by unfold gL at *;rw [List.all_append,h,k];rfl
theorem bB8:SpAll prog dSp:=⟨bEv,bEw,bEx,bEy,bEz,bF0,bF1,trivial⟩
theorem aQ8:aSh=aPs++(aPt++(aPu++(aPv++(aPw++(aPx++(aPy++(aPz++(aQ0++(aQ1++(aLn++(aLo++(aLp++(aLq++(aLr++(aLs++(aLt)))))))))))))))):=rfl
theorem aX8:gL prog aSh=true:=by
 rw [aQ8]
 exact hN aNf (hN aNg (hN aNh (hN aNi (hN aNj (hN aNk (hN aNl (hN aNm (hN aNn (hN aNo (hN aJp (hN aJq (hN aJr (hN aJs (hN aJt (hN aJu (aJv))))))))))))))))
theorem aNr:PlansOK prog uN:=aJa (by kernel_rfl) bB8 aX8
end Go.Proofs.YtoaibmbldmckaaaGreat
end
section
namespace Go.Proofs.YtoaibmbldmckaaaGreat
open Go.AM Tryz
def aGb (y:Int):Bool:=if y.tmod 4=0 then (if y.tmod 100=0 then decide (y.tmod 400=0) else true) else false
def cS (y m:Int):Int:=if m=2 then (if aGb y=true then 29 else 28) else if m=4∨m=6∨m=9∨m=11 then 30 else 31
structure Date where
 y:Int
 m:Int
 d:Int
deriving DecidableEq
def Date.enc (d:Date):List V:=[.int .i64 d.y,.int .i64 d.m,.int .i64 d.d]
def Date.right (d:Date):Bool:=decide (1≤d.y)&&(decide (d.y≤9999)&&(decide (1≤d.m)&&(decide (d.m≤12)&&(decide (1≤d.d)&&decide (d.d≤cS d.y d.m)))))
def ahead (y:Int):Int:=
 wr .i64 (wr .i64 (wr .i64 (wr .i64 (365*wr .i64 (y - 1))+wr .i64 ((wr .i64 (y - 1)).tdiv 4)) - wr .i64 ((wr .i64 (y - 1)).tdiv 100))+wr .i64 ((wr .i64 (y - 1)).tdiv 400))
def lQ (y:Int) (n:Int) (i:Nat):Int⊕Int:=.inr (wr .i64 (n+cS y ((i:Int)+1)))
def Date.days (d:Date):Int:=if d.right=true then wr .i64 (wr .i64 (aR (lQ d.y) id (List.range (d.m - 1).toNat) (ahead d.y)+d.d) - 1) else -1
def Date.before (a b:Date):Bool:=a.right&&(b.right&&decide (a.days<b.days))
def cQ (a b:Int):Int×Int:=
 if (0<b∧wr .i64 (9223372036854775807 - b)<a)∨(b<0∧a<wr .i64 (-9223372036854775808 - b)) then (0,7) else (wr .i64 (a+b),0)
def jV (a b:Int):Int×Int:=
 if (b<0∧wr .i64 (9223372036854775807+b)<a)∨(0<b∧a<wr .i64 (-9223372036854775808+b)) then (0,7) else (wr .i64 (a - b),0)
def gE (r:Int×Int):V:=.tup [.int .i64 r.1,.int .i64 r.2]
def aNs (n:Int):Int:=wr .u64 ((BitVec.ofInt IntKind.u64.bits (if IntKind.u64.signed then -1 else IntKind.u64.max) ^^^ BitVec.ofInt IntKind.u64.bits n).toNat)
def nZ (n:Int):Int:=if n<0 then wr .u64 (aNs (wr .u64 n)+1) else wr .u64 n
def aAh (n:Int) (neg:Bool):Int×Bool:=
 if neg=true then (wr .i64 (wr .u64 (aNs n+1)),decide (n≤9223372036854775808)) else (wr .i64 n,decide (n≤9223372036854775807))
def aKg (a b:Int):Int×Int:=
 if 0<nZ b∧wr .u64 ((9223372036854775808:Int).tdiv (nZ b))<nZ a then (0,7) else
  let r:=aAh (wr .u64 (nZ a*nZ b)) (!(decide (a<0) == decide (b<0)))
  if r.2=true then (r.1,0) else (0,7)
def cG (n bp:Int):Int×Int:=
 if bp<0∨100000<bp then (0,1) else
  let u:=nZ n
  let p:=wr .u64 bp
  let many:=wr .u64 (u.tdiv 10000)
  let rest:=u.tmod 10000
  if 0<p∧wr .u64 ((9223372036854775807:Int).tdiv p)<many then (0,7) else
   let out:=wr .u64 (wr .u64 (many*p)+wr .u64 ((wr .u64 (wr .u64 (wr .u64 (2*rest)*p)+10000)).tdiv (wr .u64 (2*10000))))
   if 9223372036854775807<out then (0,7) else if n<0 then (wr .i64 (0 - wr .i64 out),0) else (wr .i64 out,0)
theorem aBm:wr .u64 (2*10000)=20000:=by decide
theorem bB9:wr .u64 10000=10000:=by decide
def vR (r:Int):Bool:=
 if (97≤r∧r≤122)∨(65≤r∧r≤90) then true else if r=215 then false else if r=247 then false else decide (192≤r)&&decide (r≤591)
def mV (s:List UInt8):Nat→Nat→List (Nat×Nat)
 | 0,_=>[]
 | f+1,pos=>if pos<s.length then (pos,(Utf8.decode ⟨⟨s⟩⟩ pos).1)::mV s f (pos+(Utf8.decode ⟨⟨s⟩⟩ pos).2) else []
theorem aHz (s:ByteArray) (i:Nat):1≤(Utf8.decode s i).2:=by
 unfold Utf8.decode
 simp only
 repeat' split
 all_goals simp
def vS (_:Unit) (x:Nat×Nat):Bool⊕Unit:=
 if vR x.2=true then .inr () else if x.1=0 then .inl false else if (48≤x.2∧x.2≤57)∨x.2=45∨x.2=95∨x.2=46 then .inr () else .inl false
def eN (s:List UInt8):Bool:=if s.length<1 then false else if 24<s.length then false else aR vS (fun _=>true) (mV s s.length 0) ()
structure Rate where
 cat:List UInt8
 day:Date
 bp:Int
deriving DecidableEq
def Rate.enc (r:Rate):List V:=[.str r.cat,.int .i64 r.day.y,.int .i64 r.day.m,.int .i64 r.day.d,.int .i64 r.bp]
def tQ (r:Rate):Int:=if eN r.cat=false then 8 else if r.day.right=false then 9 else if r.bp<0 then 10 else if 100000<r.bp then 10 else 0
def fP (a b:Rate):Bool:=if fY a.cat b.cat=true then true else if (a.cat == b.cat)=true then a.day.before b.day else false
def iN (prev:Option Rate) (r:Rate):Bool⊕Option Rate:=
 if tQ r≠0 then .inl false else match prev with
  | none=>.inr (some r)
  | some p=>if fP p r=true then .inr (some r) else .inl false
def fZ (l:List Rate):Bool:=if 24<l.length then false else aR iN (fun _=>true) l none
def gA {α:Type} (l:List α) (i:Nat):Option α:=if i=0 then none else l[i - 1]?
structure Rep where
 why:Int
 number:Int
 gross:Int
deriving DecidableEq
structure Sess where
 id:Int
 last:Int
 reply:Rep
deriving DecidableEq
def Rep.enc (r:Rep):List V:=[.int .i64 r.why,.int .i64 r.number,.int .i64 r.gross]
def Sess.enc (s:Sess):List V:=[.int .i64 s.id,.int .i64 s.last,.int .i64 s.reply.why,.int .i64 s.reply.number,.int .i64 s.reply.gross]
def Rep.zero:Rep:=⟨0,0,0⟩
def iZ (last:Int) (s:Sess):Bool⊕Int:=
 if s.id≤last then .inl false else if s.last<0 then .inl false else if 1099511627776<s.last then .inl false else if s.last=0∧s.reply≠Rep.zero then .inl false else .inr s.id
def gF (l:List Sess):Bool:=if 8<l.length then false else aR iZ (fun _=>true) l 0
def eW {α:Type} (p:α→Bool) (n:Nat) (a:α):Int⊕Nat:=if p a=true then .inl (n:Int) else .inr (n+1)
def ixM {α:Type} (p:α→Bool) (l:List α):Int:=aR (eW p) (fun _=>-1) l 0
theorem aDm {α:Type} (p:α→Bool):∀ (l:List α) (n:Nat),(aR (eW p) (fun _=>-1) l n=-1)∨∃ (i:Nat) (a:α),aR (eW p) (fun _=>-1) l n=((n+i:Nat):Int)∧l[i]?=some a∧p a=true
 | [],n=>.inl rfl
 | a::l,n=>by
  by_cases h:p a=true
  ·refine .inr ⟨0,a,?_,rfl,h⟩
   simp [aR,eW,h]
  ·rcases aDm p l (n+1) with h1 | ⟨i,b,h1,h2,h3⟩
   ·left;simp [aR,eW,h,h1]
   ·right
    refine ⟨i+1,b,?_,by simpa using h2,h3⟩
    simp only [aR,eW,h,if_false]
    simp only [h1,Bool.false_eq_true,if_false]
    omega
theorem rU {α:Type} (p:α→Bool) (l:List α):(ixM p l=-1)∨∃ (i:Nat) (a:α),ixM p l=(i:Int)∧l[i]?=some a∧p a=true:=by
 rcases aDm p l 0 with h | ⟨i,a,h1,h2,h3⟩
 ·exact .inl h
 ·exact .inr ⟨i,a,by rw [ixM,h1];simp,h2,h3⟩
def gQ (l:List Sess) (id:Int):Int:=ixM (fun s:Sess=>decide (s.id=id)) l
def cL (l:List Sess) (id seq:Int):Rep×Bool×Int:=
 if gF l=false then (Rep.zero,false,1) else if gQ l id<0 then (Rep.zero,false,15) else if seq<1∨1099511627776<seq then (Rep.zero,false,1) else
  match l[(gQ l id).toNat]? with
  | none=>(Rep.zero,false,1)
  | some s=>if seq=s.last then (s.reply,true,0) else if seq<s.last then (Rep.zero,false,16) else (Rep.zero,false,0)
theorem lR {l:List Sess} (h:gF l=true):l.length≤8:=by
 unfold gF at h
 split at h
 ·cases h
 ·omega
theorem jA (l:List Sess) (id:Int):gQ l id=-1∨∃ (i:Nat) (s:Sess),gQ l id=(i:Int)∧l[i]?=some s∧s.id=id:=by
 rcases rU (fun s:Sess=>decide (s.id=id)) l with h | ⟨i,s,h1,h2,h3⟩
 ·exact .inl h
 ·exact .inr ⟨i,s,h1,h2,of_decide_eq_true h3⟩
def eP {α:Type} (p:α→Bool) (n:Nat) (a:α):Nat⊕Nat:=if p a=true then .inr (n+1) else .inl n
def kW {α:Type} (p:α→Bool) (l:List α):Nat:=aR (eP p) id l 0
theorem aDn {α:Type} (p:α→Bool):∀ (l:List α) (n:Nat),aR (eP p) id l n≤n+l.length
 | [],n=>by simp [aR]
 | a::l,n=>by
  have ih:=aDn p l (n+1)
  by_cases h:p a=true
  ·simp only [aR,eP,h,if_true,List.length_cons];omega
  ·simp only [aR,eP,h,if_false,List.length_cons,Bool.false_eq_true];omega
theorem vT {α:Type} (p:α→Bool) (l:List α):kW p l≤l.length:=by have:=aDn p l 0;simp only [kW];omega
def fG {α:Type} (l:List α) (i:Nat) (a:α):List α:=l.take i++a::l.drop i
theorem lS {α β:Type} (f:α→β) (l:List α) (i:Nat) (a:α):(fG l i a).map f=(l.map f).take i++f a::(l.map f).drop i:=by simp [fG,List.map_take,List.map_drop]
def mW (l:List Sess) (id:Int):List Sess×Int:=
 if gF l=false∨id<1 then ([],1) else if 0≤gQ l id then ([],12) else if 8≤l.length then ([],14) else (fG l (kW (fun s=>decide (s.id<id)) l) ⟨id,0,Rep.zero⟩,0)
def tR {α:Type} (l:List α) (i:Nat):List α:=l.take i++l.drop (i+1)
theorem aKh {α β:Type} (f:α→β) (l:List α) (i:Nat):(tR l i).map f=(l.map f).take i++(l.map f).drop (i+1):=by simp [tR,List.map_take,List.map_drop]
def gB (l:List Sess) (id:Int):List Sess×Int:=
 if gF l=false then ([],1) else if gQ l id<0 then ([],11) else (tR l (gQ l id).toNat,0)
def jL (l:List Sess) (id seq:Int) (r:Rep):List Sess×Int:=
 if (cL l id seq).2.2≠0 then ([],(cL l id seq).2.2) else if (cL l id seq).2.1=true then ([],12) else
  match l[(gQ l id).toNat]? with
  | none=>([],0)
  | some s=>(l.set (gQ l id).toNat ⟨s.id,seq,r⟩,0)
theorem aBn {l:List Sess} {id seq:Int} (h:(cL l id seq).2.2=0):gF l=true∧∃ (i:Nat) (s:Sess),gQ l id=(i:Int)∧l[i]?=some s:=by
 unfold cL at h
 split at h
 ·cases h
 ·rename_i hr
  have hr:gF l=true:=by simpa using hr
  split at h
  ·cases h
  ·rcases jA l id with h' | ⟨i,s,h1,h2,_⟩
   ·omega
   ·exact ⟨hr,i,s,h1,h2⟩
structure Ser where
 name:List UInt8
 next:Int
 limit:Int
 shut:Bool
deriving DecidableEq
def Ser.enc (s:Ser):List V:=[.str s.name,.int .i64 s.next,.int .i64 s.limit,.bool s.shut]
def iB (l:List Ser) (name:List UInt8):Int:=ixM (fun s:Ser=>s.name == name) l
theorem kP (l:List Ser) (name:List UInt8):iB l name=-1∨∃ (i:Nat) (s:Ser),iB l name=(i:Int)∧l[i]?=some s∧s.name=name:=by
 rcases rU (fun s:Ser=>s.name == name) l with h | ⟨i,s,h1,h2,h3⟩
 ·exact .inl h
 ·exact .inr ⟨i,s,h1,h2,by simpa using h3⟩
def qQ (s:Ser):Bool:=decide (s.limit<1)||(decide (1099511627776<s.limit)||(decide (s.next<1)||decide (wr .i64 (s.limit+1)<s.next)))
def oC (prev:Option Ser) (s:Ser):Bool:=match prev with
 | none=>false
 | some p=>!fY p.name s.name
def mX (prev:Option Ser) (s:Ser):Bool⊕Option Ser:=
 if eN s.name=false then .inl false else if oC prev s=true then .inl false else if qQ s=true then .inl false else .inr (some s)
def mO (l:List Ser):Bool:=if 8<l.length then false else aR mX (fun _=>true) l none
theorem oF {l:List Ser} (h:mO l=true):l.length≤8:=by
 unfold mO at h
 split at h
 ·cases h
 ·omega
def iC (l:List Ser) (name:List UInt8):Int×Int:=
 if mO l=false then (0,1) else if iB l name<0 then (0,11) else match l[(iB l name).toNat]? with
  | none=>(0,1)
  | some s=>if s.shut=true then (0,13) else (iB l name,0)
theorem vU {l:List Ser} {name:List UInt8} (h:(iC l name).2=0):mO l=true∧∃ (i:Nat) (s:Ser),iC l name=((i:Int),0)∧iB l name=(i:Int)∧l[i]?=some s∧s.name=name∧s.shut=false:=by
 unfold iC at h
 split at h
 ·cases h
 ·rename_i hr
  have hr:mO l=true:=by simpa using hr
  split at h
  ·cases h
  ·rename_i h11
   rcases kP l name with h' | ⟨i,s,h1,h2,h3⟩
   ·omega
   ·rw [h1] at h
    simp only [Int.toNat_natCast,h2] at h
    split at h
    ·cases h
    ·rename_i hsh
     refine ⟨hr,i,s,?_,h1,h2,h3,by simpa using hsh⟩
     unfold iC
     rw [if_neg (by rw [hr];simp),if_neg h11,h1]
     simp only [Int.toNat_natCast,h2,if_neg hsh]
def oG (l:List Ser) (name:List UInt8):List Ser×Int:=
 if (iC l name).2≠0 then ([],(iC l name).2) else match l[(iC l name).1.toNat]? with
  | none=>([],0)
  | some s=>(l.set (iC l name).1.toNat { s with shut:=true },0)
def dC (l:List Ser) (name:List UInt8):List Ser×Int×Int:=
 if (iC l name).2≠0 then ([],0,(iC l name).2) else match l[(iC l name).1.toNat]? with
  | none=>([],0,0)
  | some s=>if s.limit<s.next then ([],0,14) else (l.set (iC l name).1.toNat { s with next:=wr .i64 (s.next+1) },s.next,0)
def fB (l:List Ser) (name:List UInt8) (limit:Int):List Ser×Int:=
 if mO l=false then ([],1) else if eN name=false then ([],8) else if limit<1∨1099511627776<limit then ([],1) else if 0≤iB l name then ([],12) else if 8≤l.length then ([],14) else
  (fG l (kW (fun s=>fY s.name name) l) ⟨name,1,limit,false⟩,0)
def Ser.zero:Ser:=⟨[],0,0,false⟩
def kE (l:List Ser) (name:List UInt8):Ser×Bool:=match (if iB l name<0 then none else l[(iB l name).toNat]?) with
 | none=>(Ser.zero,false)
 | some s=>(s,true)
def jB (cat:List UInt8) (d:Date) (st:Int×Bool) (r:Rate):(Int×Bool)⊕(Int×Bool):=.inr (if (r.cat == cat)=true∧d.before r.day=false then (r.bp,true) else st)
def iD (l:List Rate) (cat:List UInt8) (d:Date):Int×Bool:=if fZ l=false then (0,false) else if d.right=false then (0,false) else aR (jB cat d) id l (0,false)
theorem tS {l:List Rate} (h:fZ l=true):l.length≤24:=by
 unfold fZ at h
 split at h
 ·cases h
 ·omega
def kF (r:Rate) (k:Nat) (x:Rate):Option Nat⊕Nat:=
 if (x.cat == r.cat)=true∧x.day=r.day then .inl none else .inr (if fP x r=true then k+1 else k)
def gV (l:List Rate) (r:Rate):List Rate×Int:=
 if fZ l=false then ([],1) else if tQ r≠0 then ([],tQ r) else match aR (kF r) some l 0 with
  | none=>([],12)
  | some k=>if 24≤l.length then ([],2) else (fG l k r,0)
structure Bal where
 acc:List UInt8
 amount:Int
deriving DecidableEq
def Bal.enc (b:Bal):List V:=[.str b.acc,.int .i64 b.amount]
structure Part where
 cat:List UInt8
 bp:Int
 net:Int
 tax:Int
deriving DecidableEq
def Part.enc (p:Part):List V:=[.str p.cat,.int .i64 p.bp,.int .i64 p.net,.int .i64 p.tax]
structure Total where
 net:Int
 tax:Int
 gross:Int
 parts:List Part
deriving DecidableEq
def Total.cells (t:Total) (pv:V):List V:=[.int .i64 t.net,.int .i64 t.tax,.int .i64 t.gross,pv]
def aBo (prev:Option Bal) (b:Bal):Bool⊕Option Bal:=match prev with
 | none=>.inl false
 | some p=>if fY p.acc b.acc=true then .inr (some b) else .inl false
def aDo (l:List Bal):Bool:=aR aBo (fun _=>true) (l.drop 1) l[0]?
def aNt:List UInt8:=[110,101,116,47]
def aNu:List UInt8:=[116,97,120,47]
def rV (l:List Bal) (p:Part):(List Bal×Int)⊕List Bal:=
 if (jV 0 p.net).2≠0 then .inl ([],7) else if (jV 0 p.tax).2≠0 then .inl ([],7) else .inr (l++[⟨aNt++p.cat,(jV 0 p.net).1⟩,⟨aNu++p.cat,(jV 0 p.tax).1⟩])
def eI (t:Total):List Bal×Int:=aR rV (fun l=>(l,0)) t.parts [⟨[111,119,101,100],t.gross⟩]
theorem aI1:∀ (l:List Part) (a:List Bal) (r:List Bal×Int),aR rV (fun l=>(l,0)) l a=r→r.2=0→r.1.length=a.length+2*l.length
 | [],a,r,h,_=>by subst h;simp [aR]
 | p::l,a,r,h,h0=>by
  simp only [aR,rV] at h
  split at h
  ·rename_i r' he
   split at he
   ·cases he;subst h;cases h0
   ·split at he
    ·cases he;subst h;cases h0
    ·cases he
  ·rename_i s' he
   split at he
   ·cases he
   ·split at he
    ·cases he
    ·cases he
     have:=aI1 l _ r h h0
     simp only [List.length_append,List.length_cons,List.length_nil] at this ⊢
     omega
theorem xM {α:Type} (l:List α) (i:Nat) (a:α) (h:i≤l.length):(fG l i a)[i]?=some a:=by
 unfold fG
 rw [List.getElem?_append_right (by rw [List.length_take];omega),List.length_take,Nat.min_eq_left h,Nat.sub_self]
 rfl
theorem xN {α:Type} (l:List α) (i:Nat) (a:α) (h:i≤l.length):(fG l i a).length=l.length+1:=by
 simp only [fG,List.length_append,List.length_take,List.length_cons,List.length_drop];omega
def cC (l:List Bal) (acc:List UInt8):Nat:=kW (fun b=>fY b.acc acc) l
def mY (l:List Bal) (acc:List UInt8):Bool:=match l[cC l acc]? with
 | none=>true
 | some b=>!(b.acc == acc)
def eG (l:List Bal) (acc:List UInt8):List Bal:=if mY l acc=true then fG l (cC l acc) ⟨acc,0⟩ else l
def dT (l:List Bal) (x:Bal):(List Bal×Int)⊕List Bal:=match (eG l x.acc)[cC l x.acc]? with
 | none=>.inl ([],0)
 | some b=>if (cQ b.amount x.amount).2≠0 then .inl ([],(cQ b.amount x.amount).2) else .inr ((eG l x.acc).set (cC l x.acc) ⟨b.acc,(cQ b.amount x.amount).1⟩)
def cZ (book l:List Bal):List Bal×Int:=if aDo book=false then ([],1) else aR dT (fun l=>(l,0)) l book
theorem qR (l:List Bal) (acc:List UInt8):cC l acc≤l.length:=vT _ _
theorem yZ (l:List Bal) (acc:List UInt8):∃ b,(eG l acc)[cC l acc]?=some b:=by
 unfold eG
 split
 ·exact ⟨_,xM _ _ _ (qR l acc)⟩
 ·rename_i h
  unfold mY at h
  split at h
  ·exact absurd rfl h
  ·rename_i b hb;exact ⟨b,hb⟩
theorem zA (l:List Bal) (acc:List UInt8):(eG l acc).length≤l.length+1:=by
 unfold eG
 split
 ·rw [xN _ _ _ (qR l acc)];exact Nat.le_refl _
 ·omega
theorem pE (l:List Bal) (x:Bal):dT l x=if (cQ ((eG l x.acc)[cC l x.acc]?.map (·.amount) |>.getD 0) x.amount).2≠0 then .inl ([],(cQ ((eG l x.acc)[cC l x.acc]?.map (·.amount) |>.getD 0) x.amount).2)
  else .inr ((eG l x.acc).set (cC l x.acc) ⟨((eG l x.acc)[cC l x.acc]?.map (·.acc) |>.getD []),(cQ ((eG l x.acc)[cC l x.acc]?.map (·.amount) |>.getD 0) x.amount).1⟩):=by
 obtain ⟨b,hb⟩:=yZ l x.acc
 unfold dT
 simp only [hb,Option.map_some,Option.getD_some]
theorem aCt {l l':List Bal} {x:Bal} (h:dT l x=.inr l'):l'.length≤l.length+1:=by
 rw [pE] at h
 split at h
 ·cases h
 ·cases h
  rw [List.length_set]
  exact zA l x.acc
theorem aBp:∀ (l:List Bal) (a:List Bal) (r:List Bal×Int),aR dT (fun l=>(l,0)) l a=r→r.1.length≤a.length+l.length
 | [],a,r,h=>by subst h;simp [aR]
 | x::l,a,r,h=>by
  simp only [aR] at h
  split at h
  ·rename_i r' he
   subst h
   rw [pE] at he
   split at he
   ·cases he;simp
   ·cases he
  ·rename_i s' he
   have h1:=aCt he
   have:=aBp l _ r h
   simp only [List.length_cons]
   omega
def hU (n:Int):List V:=[.int .i64 n]
theorem aNv (n:Int):0≤wr .u64 n∧wr .u64 n<18446744073709551616:=by
 unfold wr lo hi
 simp only
 split
 ·omega
 ·show 0≤n % 18446744073709551616∧n % 18446744073709551616<18446744073709551616
  omega
theorem bF2:aNs 0=18446744073709551615:=by decide
def rW (st:Int×Int) (n:Int):(Int×Bool)⊕(Int×Int):=
 .inr ((st.1+(if n<0 then 18446744073709551615 else 0)+(st.2+wr .u64 n+0) / 18446744073709551616) % 18446744073709551616,(st.2+wr .u64 n+0) % 18446744073709551616)
def qS (st:Int×Int):Int×Bool:=(wr .i64 st.2,if st.2.fdiv (2 ^ 63)=0 then decide (st.1=0) else decide (st.1=18446744073709551615))
def hY (l:List Int):Int×Bool:=aR rW qS l (0,0)
structure Line where
 text:List UInt8
 cat:List UInt8
 count:Int
 price:Int
deriving DecidableEq
def Line.enc (l:Line):List V:=[.str l.text,.str l.cat,.int .i64 l.count,.int .i64 l.price]
def fH (tab:List Rate) (d:Date) (l:Line):Int×Int×Int:=
 if 64<l.text.length then (0,0,2) else if eN l.cat=false then (0,0,8) else if l.count<1∨1048576<l.count then (0,0,1) else
  if (iD tab l.cat d).2=false then (0,0,10) else ((iD tab l.cat d).1,(aKg l.count l.price).1,(aKg l.count l.price).2)
def aQ9 (r:Int×Int×Int):V:=.tup [.int .i64 r.1,.int .i64 r.2.1,.int .i64 r.2.2]
def bS (l:List Part) (cat:List UInt8):Nat:=kW (fun p=>fY p.cat cat) l
def jC (l:List Part) (cat:List UInt8):Bool:=match l[bS l cat]? with
 | none=>true
 | some b=>!(b.cat == cat)
def dS (l:List Part) (cat:List UInt8) (bp:Int):List Part:=if jC l cat=true then fG l (bS l cat) ⟨cat,bp,0,0⟩ else l
def pX (l:List Part) (cat:List UInt8) (bp n:Int):List Part×Int:=match (dS l cat bp)[bS l cat]? with
 | none=>([],0)
 | some p=>((dS l cat bp).set (bS l cat) { p with net:=(cQ p.net n).1 },(cQ p.net n).2)
theorem pF (l:List Part) (cat:List UInt8):bS l cat≤l.length:=vT _ _
theorem pG (l:List Part) (cat:List UInt8) (bp:Int):∃ b,(dS l cat bp)[bS l cat]?=some b:=by
 unfold dS
 split
 ·exact ⟨_,xM _ _ _ (pF l cat)⟩
 ·rename_i h
  unfold jC at h
  split at h
  ·exact absurd rfl h
  ·rename_i b hb;exact ⟨b,hb⟩
theorem aGc (l:List Part) (cat:List UInt8) (bp:Int):(dS l cat bp).length≤l.length+1:=by
 unfold dS
 split
 ·rw [xN _ _ _ (pF l cat)];exact Nat.le_refl _
 ·omega
theorem aI2 (l:List Part) (cat:List UInt8) (bp n:Int):(pX l cat bp n).1.length≤l.length+1:=by
 obtain ⟨b,hb⟩:=pG l cat bp
 unfold pX
 rw [hb]
 simp only [List.length_set]
 exact aGc l cat bp
def Total.zero:Total:=⟨0,0,0,[]⟩
def fX (st:Int×Int×List Part) (p:Part):(Total×Int)⊕(Int×Int×List Part):=
 if (cG p.net p.bp).2≠0∨(cQ st.1 p.net).2≠0∨(cQ st.2.1 (cG p.net p.bp).1).2≠0 then .inl (Total.zero,7) else
  .inr ((cQ st.1 p.net).1,(cQ st.2.1 (cG p.net p.bp).1).1,st.2.2++[{ p with tax:=(cG p.net p.bp).1 }])
def kQ (st:Int×Int×List Part):Total×Int:=
 if (cQ st.1 st.2.1).2≠0 then (Total.zero,(cQ st.1 st.2.1).2) else (⟨st.1,st.2.1,(cQ st.1 st.2.1).1,st.2.2⟩,0)
def eX (l:List Part):Total×Int:=aR fX kQ l (0,0,[])
def iF (tab:List Rate) (d:Date) (parts:List Part) (l:Line):(Total×Int)⊕List Part:=
 if (fH tab d l).2.2≠0 then .inl (Total.zero,(fH tab d l).2.2) else
  if (pX parts l.cat (fH tab d l).1 (fH tab d l).2.1).2≠0 then .inl (Total.zero,(pX parts l.cat (fH tab d l).1 (fH tab d l).2.1).2) else
   .inr (pX parts l.cat (fH tab d l).1 (fH tab d l).2.1).1
def dL (tab:List Rate) (d:Date) (lines:List Line):Total×Int:=
 if fZ tab=false then (Total.zero,1) else if d.right=false then (Total.zero,9) else if lines.length=0 then (Total.zero,1) else if 12<lines.length then (Total.zero,2) else
  aR (iF tab d) eX lines []
structure But (a:Nat) (S S':St):Prop where
 old:∀ y b,y≠a→S.heap.get y=some b→S'.heap.get y=some b
 next:S.next≤S'.next
 wf:WF S→WF S'
def oH (n:Int):V:=.int .i64 n
def rX (done:List Int) (x:Int):(List Int×Int)⊕List Int:=if (jV 0 x).2≠0 then .inl ([],(jV 0 x).2) else .inr (done++[(jV 0 x).1])
def gW (l:List Int):List Int×Int:=aR rX (fun l=>(l,0)) l []
def dZ (acc:List Part) (p:Part):(List Part×Int)⊕List Part:=
 if (gW [p.net,p.tax]).2≠0 then .inl ([],(gW [p.net,p.tax]).2) else .inr (acc++[{ p with net:=(gW [p.net,p.tax]).1.getD 0 0,tax:=(gW [p.net,p.tax]).1.getD 1 0 }])
def bU (t:Total):Total×Int:=
 if (gW [t.net,t.tax,t.gross]).2≠0 then (Total.zero,(gW [t.net,t.tax,t.gross]).2) else
  if (aR dZ (fun l=>(l,0)) t.parts []).2≠0 then (Total.zero,(aR dZ (fun l=>(l,0)) t.parts []).2) else
   (⟨(gW [t.net,t.tax,t.gross]).1.getD 0 0,(gW [t.net,t.tax,t.gross]).1.getD 1 0,(gW [t.net,t.tax,t.gross]).1.getD 2 0,(aR dZ (fun l=>(l,0)) t.parts []).1⟩,0)
structure Ref where
 ser:List UInt8
 num:Int
deriving DecidableEq
def Ref.enc (r:Ref):List V:=[.str r.ser,.int .i64 r.num]
def Ref.zero:Ref:=⟨[],0⟩
structure Posted where
 ref:Ref
 day:Date
 total:Total
 of:Ref
 back:Bool
deriving DecidableEq
def Posted.cells (p:Posted) (pv:V):List V:=[.str p.ref.ser,.int .i64 p.ref.num,.int .i64 p.day.y,.int .i64 p.day.m,.int .i64 p.day.d,.int .i64 p.total.net,.int .i64 p.total.tax,.int .i64 p.total.gross,pv,.str p.of.ser,.int .i64 p.of.num,.bool p.back]
abbrev PV:=Posted×V
theorem aX9 {α β:Type} (f:α→β) (p:β→Bool) (l:List α):ixM (fun a=>p (f a)) l=ixM p (l.map f):=by
 have:∀ (l:List α) (n:Nat),aR (eW fun a=>p (f a)) (fun _=>(-1:Int)) l n=aR (eW p) (fun _=>-1) (l.map f) n:=by
  intro l
  induction l with
  | nil=>intro n;rfl
  | cons a l ih=>
   intro n
   simp only [aR,List.map_cons,eW]
   by_cases h:p (f a)=true
   ·simp only [h,if_true]
   ·simp only [h,if_false]
    exact ih (n+1)
 exact this l 0
def cM (l:List Posted) (r:Ref):Int:=ixM (fun p:Posted=>decide (p.ref=r)) l
theorem lJ (l:List Posted) (r:Ref):cM l r=-1∨∃ (i:Nat) (s:Posted),cM l r=(i:Int)∧l[i]?=some s∧s.ref=r:=by
 rcases rU (fun p:Posted=>decide (p.ref=r)) l with h | ⟨i,s,h1,h2,h3⟩
 ·exact .inl h
 ·exact .inr ⟨i,s,h1,h2,by simpa using h3⟩
def pH {α:Type} [DecidableEq α] (r:List α) (n:Nat) (a:α):Bool⊕Nat:=if r[n]?=some a then .inr (n+1) else .inl false
theorem eqL {α:Type} [DecidableEq α] {l r:List α} (h:l.length=r.length):aR (pH r) (fun _=>true) l 0=decide (l=r):=by
 have:∀ (l t r:List α),l.length=(r.drop t.length).length→r.take t.length=t→aR (pH r) (fun _=>true) l t.length=decide (l=r.drop t.length):=by
  intro l
  induction l with
  | nil=>
   intro t r h1 h2
   have:r.drop t.length=[]:=List.length_eq_zero_iff.1 h1.symm
   rw [this];rfl
  | cons a l ih=>
   intro t r h1 h2
   have hlt:t.length<r.length:=by rw [List.length_drop] at h1;simp only [List.length_cons] at h1;omega
   rw [List.drop_eq_getElem_cons hlt]
   simp only [aR,pH,List.getElem?_eq_getElem hlt]
   by_cases c:r[t.length]=a
   ·have e1:(t++[a]).length=t.length+1:=by simp
    have:=ih (t++[a]) r (by rw [e1];rw [List.length_drop] at h1 ⊢;simp only [List.length_cons] at h1;omega) (by rw [e1,List.take_succ_eq_append_getElem hlt,h2,c])
    rw [e1] at this
    simp only [c,if_true]
    rw [this]
    by_cases d:l=r.drop (t.length+1)<;>simp [d]
   ·have c':¬ (some r[t.length]=some a):=fun e=>c (Option.some.inj e)
    simp only [c',if_false]
    rw [eq_comm,decide_eq_false_iff_not]
    intro e
    exact c (List.cons.inj e).1.symm
 have:=this l [] r (by simpa using h) rfl
 simpa using this
def blkOf:V→Option Nat
 | .sl a _ _ _ _=>some a
 | _=>none
def sR (t:Total):Bool:=
 if (hY (t.parts.map (·.net))).2=true then (if (hY (t.parts.map (·.tax))).2=true then (if (hY [t.net,t.tax]).2=true then
  (if (hY (t.parts.map (·.net))).1=t.net then (if (hY (t.parts.map (·.tax))).1=t.tax then decide ((hY [t.net,t.tax]).1=t.gross) else false) else false) else false) else false) else false
def aAi (st:List Int×List Int) (p:Part):(List Int×List Int)⊕(List Int×List Int):=.inr (st.1++[p.net],st.2++[p.tax])
theorem bF3:∀ (l:List Part) (a b:List Int),aR aAi id l (a,b)=(a++l.map (·.net),b++l.map (·.tax))
 | [],a,b=>by simp [aR]
 | p::l,a,b=>by simp only [aR,aAi];rw [bF3 l];simp
def lT (prev:Option Part) (s:Part):Bool:=match prev with
 | none=>false
 | some p=>!fY p.cat s.cat
def vV (s:Part):Bool:=decide (s.bp<0)||decide (100000<s.bp)
def vW (s:Part):Bool:=!decide ((cG s.net s.bp).2=0)||!decide ((cG s.net s.bp).1=s.tax)
def fI (prev:Option Part) (s:Part):Bool⊕Option Part:=
 if eN s.cat=false then .inl false else if lT prev s=true then .inl false else if vV s=true then .inl false else if vW s=true then .inl false else .inr (some s)
def eH (t:Total):Bool:=if t.parts.length<1 then false else if 12<t.parts.length then false else aR fI (fun _=>sR t) t.parts none
def nM (p fr:Posted):Bool:=if fr.of=Ref.zero then (if p.day.before fr.day=false then (if (bU fr.total).2=0 then decide ((bU fr.total).1=p.total) else false) else false) else false
theorem aDp:∀ (l a:List Part) (r:List Part×Int),aR dZ (fun l=>(l,0)) l a=r→r.1.length≤a.length+l.length
 | [],a,r,h=>by subst h;simp [aR]
 | x::l,a,r,h=>by
  simp only [aR] at h
  split at h
  ·rename_i r' he
   subst h
   unfold dZ at he
   split at he
   ·cases he;simp
   ·cases he
  ·rename_i a' he
   unfold dZ at he
   split at he
   ·cases he
   ·cases he
    have:=aDp l _ r h
    simp only [List.length_append,List.length_cons,List.length_nil] at this ⊢
    omega
theorem xO (t:Total):(bU t).1.parts.length≤t.parts.length:=by
 unfold bU
 split
 ·simp [Total.zero]
 ·split
  ·simp [Total.zero]
  ·have:=aDp t.parts [] _ rfl
   simpa using this
def cR (book:List Bal) (p:Posted):(List Bal×Int)⊕List Bal:=
 if (eI p.total).2≠0 then .inl ([],(eI p.total).2) else if (cZ book (eI p.total).1).2≠0 then .inl ([],(cZ book (eI p.total).1).2) else .inr (cZ book (eI p.total).1).1
def eB (l:List Posted):List Bal×Int:=aR cR (fun b=>(b,0)) l []
theorem tU (book l:List Bal):(cZ book l).1.length≤book.length+l.length:=by
 unfold cZ
 split
 ·simp
 ·exact aBp l book _ rfl
theorem vX (t:Total):(eI t).1.length≤1+2*t.parts.length∨(eI t).2≠0:=by
 by_cases h:(eI t).2=0
 ·exact .inl (by have:=aI1 t.parts _ _ rfl h;simp only [List.length_cons,List.length_nil] at this;unfold eI;omega)
 ·exact .inr h
def aCu:List V:=[.str [],.int .i64 0,.int .i64 0,.int .i64 0,.int .i64 0,.int .i64 0,.int .i64 0,.int .i64 0,.nils,.str [],.int .i64 0,.bool false]
def Fit (p:Posted):Prop:=p.total.parts.length≤12∧∀ q∈p.total.parts,q.cat.length≤1000000
def bump (l:List Int) (k:Nat):List Int:=l.set k (l.getD k 0+1)
def fU (st:List Posted×List Int) (p:Posted):Bool⊕(List Posted×List Int):=
 if p.day.right=false then .inl false else if eH p.total=false then .inl false else if p.of=Ref.zero then .inr (st.1++[p],st.2) else
  if cM st.1 p.of<0 then .inl false else if nM p (st.1.getD (cM st.1 p.of).toNat ⟨Ref.zero,⟨0,0,0⟩,Total.zero,Ref.zero,false⟩)=false then .inl false else
   .inr (st.1++[p],bump st.2 (cM st.1 p.of).toNat)
def gX (bs:List Int) (p:Posted):Bool⊕List Int:=if 1<bs.headD 0 then .inl false else if p.back=decide (bs.headD 0=1) then .inr bs.tail else .inl false
def iG (l:List Posted):Bool:=if 40<l.length then false else aR fU (fun st=>aR gX (fun _=>true) l st.2) l ([],List.replicate 40 0)
theorem iO {t:Total} (h:eH t=true):t.parts.length≤12:=by
 unfold eH at h
 split at h
 ·cases h
 ·split at h
  ·cases h
  ·omega
theorem vY (l:List Int) (k:Nat) (h:k<l.length):l.getD k 0=l[k]:=by rw [List.getD_eq_getElem?_getD,List.getElem?_eq_getElem h];rfl
structure State where
 table:List Rate
 ser:List Ser
 posted:List Posted
 book:List Bal
 sess:List Sess
 next:Int
deriving DecidableEq
structure SV where
 t:V
 s:V
 p:V
 b:V
 e:V
 qs:List PV
def SV.cells (x:SV) (n:Int):List V:=[x.t,x.s,x.p,x.b,x.e,.int .i64 n]
def kG (ser:List Ser) (is:List Int) (p:Posted):Bool⊕List Int:=
 if iB ser p.ref.ser<0 then .inl false else if p.ref.num=(bump is (iB ser p.ref.ser).toNat).getD (iB ser p.ref.ser).toNat 0 then .inr (bump is (iB ser p.ref.ser).toNat) else .inl false
def jD (is:List Int) (s:Ser):Bool⊕List Int:=if s.next=is.headD 0+1 then .inr is.tail else .inl false
def mB (ser:List Ser) (l:List Posted):Bool:=aR (kG ser) (fun is=>aR jD (fun _=>true) ser is) l (List.replicate 8 0)
theorem vZ (l:List Int) (k:Nat):(bump l k).length=l.length:=List.length_set ..
theorem aQa (l:List Int) (k:Nat) (h:k<l.length):(bump l k).getD k 0=l[k]+1:=by
 rw [List.getD_eq_getElem?_getD,bump,List.getElem?_set_self h,vY l k h];rfl
def aBq (l:List Sess) (next:Int):Bool:=match l[l.length - 1]? with
 | none=>true
 | some s=>decide (s.id<next)
def jW (s:State):Bool:=if gF s.sess=true then (if 1≤s.next then (if s.next≤1099511627776 then aBq s.sess s.next else false) else false) else false
theorem aBr {σ α:Type} {step:σ→α→Bool⊕σ} {fin:σ→Bool} (hs:∀ s a r,step s a=.inl r→r=false):∀ (l:List α) (s:σ),aR step fin l s=true→∀ a∈l,∃ s s',step s a=.inr s'
 | [],s,h,a,ha=>by cases ha
 | b::l,s,h,a,ha=>by
  simp only [aR] at h
  split at h
  ·rename_i r he
   have:=hs s b r he
   rw [this] at h;cases h
  ·rename_i s' he
   rcases List.mem_cons.1 ha with rfl | ha
   ·exact ⟨s,s',he⟩
   ·exact aBr hs l s' h a ha
theorem aDq {s:List UInt8} (h:eN s=true):s.length≤24:=by
 unfold eN at h
 split at h
 ·cases h
 ·split at h
  ·cases h
  ·omega
theorem aGd {t:Total} (h:eH t=true):∀ q∈t.parts,eN q.cat=true:=by
 unfold eH at h
 split at h
 ·cases h
 ·split at h
  ·cases h
  ·intro q hq
   obtain ⟨s,s',he⟩:=aBr (fun s a r hr=>by
    unfold fI at hr
    repeat' split at hr
    all_goals cases hr
    all_goals rfl) t.parts none h q hq
   unfold fI at he
   split at he
   ·cases he
   ·rename_i hn;simpa using hn
theorem zC {p:Posted} (h:eH p.total=true):Fit p:=⟨iO h,fun q hq=>by have:=aDq (aGd h q hq);omega⟩
theorem mC {l:List Posted} (h:iG l=true):l.length≤40∧∀ p∈l,p.day.right=true∧eH p.total=true:=by
 unfold iG at h
 split at h
 ·cases h
 ·refine ⟨by omega,fun p hp=>?_⟩
  obtain ⟨s,s',he⟩:=aBr (fun s a r hr=>by
   unfold fU at hr
   repeat' split at hr
   all_goals cases hr
   all_goals rfl) l _ h p hp
  unfold fU at he
  split at he
  ·cases he
  ·rename_i h1
   split at he
   ·cases he
   ·rename_i h2
    exact ⟨by simpa using h1,by simpa using h2⟩
def cD (s:State):Bool:=if fZ s.table=false then false else if mO s.ser=false then false else if jW s=false then false else if iG s.posted=false then false else
 if mB s.ser s.posted=false then false else if (eB s.posted).2=0 then decide ((eB s.posted).1=s.book) else false
theorem qT:∀ (l:List Posted) (a:List Bal) (r:List Bal×Int),(∀ p∈l,p.total.parts.length≤12)→aR cR (fun b=>(b,0)) l a=r→r.1.length≤a.length+25*l.length
 | [],a,r,_,h=>by subst h;simp [aR]
 | p::l,a,r,hp,h=>by
  simp only [aR] at h
  split at h
  ·rename_i r' he
   subst h
   unfold cR at he
   repeat' split at he
   all_goals cases he
   all_goals simp
  ·rename_i a' he
   unfold cR at he
   split at he
   ·cases he
   ·rename_i h1
    split at he
    ·cases he
    ·cases he
     have h2:=(vX p.total).resolve_right h1
     have h3:=tU a (eI p.total).1
     have h4:=hp p (List.mem_cons_self ..)
     have:=qT l _ r (fun q hq=>hp q (List.mem_cons_of_mem _ hq)) h
     simp only [List.length_cons]
     omega
def State.new:State:=⟨[],[],[],[],[],1⟩
def SV.new:SV:=⟨.nils,.nils,.nils,.nils,.nils,[]⟩
structure Bnd (s:State):Prop where
 bt:s.table.length≤100000
 bs:s.ser.length≤100000
 bp:s.posted.length≤100000
 bb:s.book.length≤100000
 be:s.sess.length≤100000
 bq:∀ p∈s.posted,p.total.parts.length≤100000
def aY1:List UInt8:=[111,119,101,100]
def wC (g:Int) (b:Bal):Int⊕Int:=.inr (if (b.acc == aY1)=true then b.amount else g)
def aI3 (s:State) (name:List UInt8):Rep:=if (kE s.ser name).2=false then ⟨11,0,0⟩ else ⟨0,wr .i64 ((kE s.ser name).1.next - 1),aR wC id s.book 0⟩
def why (e:Int):Rep:=⟨e,0,0⟩
def bO (s:State) (name:List UInt8) (p:Posted):State×Rep:=
 if (dC s.ser name).2.2≠0 then (s,why (dC s.ser name).2.2) else if 40≤s.posted.length then (s,why 14) else
  if (eI p.total).2≠0 then (s,why (eI p.total).2) else if (cZ s.book (eI p.total).1).2≠0 then (s,why (cZ s.book (eI p.total).1).2) else
   ({ s with ser:=(dC s.ser name).1,book:=(cZ s.book (eI p.total).1).1,posted:=s.posted++[{ p with ref:=⟨name,(dC s.ser name).2.1⟩ }] },⟨0,(dC s.ser name).2.1,p.total.gross⟩)
theorem aNw {P:List UInt8→Prop} {l:List Part} {cat:List UInt8} {bp n:Int} (h:∀ p∈l,P p.cat) (hc:P cat):∀ p∈(pX l cat bp n).1,P p.cat:=by
 have hroom:∀ p∈dS l cat bp,P p.cat:=by
  unfold dS
  split
  ·intro p hp
   rcases List.mem_append.1 hp with hp | hp
   ·exact h p (List.mem_of_mem_take hp)
   ·rcases List.mem_cons.1 hp with rfl | hp
    ·exact hc
    ·exact h p (List.mem_of_mem_drop hp)
  ·exact h
 unfold pX
 split
 ·intro p hp;cases hp
 ·rename_i q hq
  intro p hp
  rcases List.mem_or_eq_of_mem_set hp with hp | rfl
  ·exact hroom p hp
  ·exact hroom q (List.mem_of_getElem? hq)
theorem zD:∀ (l:List Part) (st:Int×Int×List Part) (r:Total×Int),aR fX kQ l st=r→r.2=0→r.1.parts.map (·.cat)=st.2.2.map (·.cat)++l.map (·.cat)
 | [],st,r,h,h0=>by
  subst h
  simp only [aR,kQ] at h0 ⊢
  split at h0
  ·rename_i hc;exact absurd h0 hc
  ·rename_i hc;rw [if_neg hc];simp
 | p::l,st,r,h,h0=>by
  simp only [aR] at h
  split at h
  ·rename_i r' he
   unfold fX at he
   split at he
   ·cases he;subst h;cases h0
   ·cases he
  ·rename_i st' he
   unfold fX at he
   split at he
   ·cases he
   ·cases he
    rw [zD l _ r h h0]
    simp
theorem aDr {tab:List Rate} {d:Date}:∀ (l:List Line) (parts:List Part) (r:Total×Int),(∀ p∈parts,eN p.cat=true)→aR (iF tab d) eX l parts=r→r.2=0→(∀ p∈r.1.parts,eN p.cat=true)∧r.1.parts.length≤parts.length+l.length
 | [],parts,r,hp,h,h0=>by
  subst h
  simp only [aR] at h0 ⊢
  have:=zD parts (0,0,[]) _ rfl h0
  simp only [List.map_nil,List.nil_append] at this
  refine ⟨fun p hpm=>?_,?_⟩
  ·have hm:p.cat∈parts.map (·.cat):=by rw [←this];exact List.mem_map_of_mem hpm
   obtain ⟨q,hq,e⟩:=List.mem_map.1 hm
   rw [←e];exact hp q hq
  ·have hl:=congrArg List.length this
   rw [List.length_map,List.length_map] at hl
   exact Nat.le_of_eq hl
 | x::l,parts,r,hp,h,h0=>by
  simp only [aR] at h
  split at h
  ·rename_i r' he
   unfold iF at he
   split at he
   ·rename_i hc;cases he;subst h;exact absurd h0 hc
   ·split at he
    ·rename_i hc;cases he;subst h;exact absurd h0 hc
    ·cases he
  ·rename_i s' he
   unfold iF at he
   split at he
   ·cases he
   ·rename_i hc
    split at he
    ·cases he
    ·cases he
     have hn:eN x.cat=true:=by
      have hc0:(fH tab d x).2.2=0:=by omega
      unfold fH at hc0
      split at hc0
      ·cases hc0
      ·split at hc0
       ·cases hc0
       ·rename_i hh;simpa using hh
     have h1:=aI2 parts x.cat (fH tab d x).1 (fH tab d x).2.1
     obtain ⟨h2,h3⟩:=aDr l _ r (aNw (P:=fun c=>eN c=true) hp hn) h h0
     refine ⟨h2,?_⟩
     simp only [List.length_cons]
     omega
theorem tV {tab:List Rate} {d:Date} {l:List Line} (h:(dL tab d l).2=0):(dL tab d l).1.parts.length≤12∧∀ q∈(dL tab d l).1.parts,q.cat.length≤1000000:=by
 unfold dL at h ⊢
 split at h
 ·cases h
 ·rename_i c1
  rw [if_neg c1]
  split at h
  ·cases h
  ·rename_i c2
   rw [if_neg c2]
   split at h
   ·cases h
   ·rename_i c3
    rw [if_neg c3]
    split at h
    ·cases h
    ·rename_i c4
     rw [if_neg c4]
     obtain ⟨h1,h2⟩:=aDr l [] _ (fun _ h=>by cases h) rfl h
     refine ⟨by simp only [List.length_nil] at h2;omega,fun q hq=>by have:=aDq (h1 q hq);omega⟩
theorem aBs:∀ (l a:List Part) (r:List Part×Int),aR dZ (fun l=>(l,0)) l a=r→r.2=0→r.1.map (·.cat)=a.map (·.cat)++l.map (·.cat)
 | [],a,r,h,h0=>by subst h;simp [aR]
 | x::l,a,r,h,h0=>by
  simp only [aR] at h
  split at h
  ·rename_i r' he
   subst h
   unfold dZ at he
   split at he
   ·rename_i hc;cases he;exact absurd h0 hc
   ·cases he
  ·rename_i a' he
   unfold dZ at he
   split at he
   ·cases he
   ·cases he
    rw [aBs l _ r h h0]
    simp
theorem aKi (t:Total) (h:(bU t).2=0):(bU t).1.parts.map (·.cat)=t.parts.map (·.cat):=by
 unfold bU at h ⊢
 split at h
 ·rename_i c;exact absurd h c
 ·rename_i c
  rw [if_neg c]
  split at h
  ·rename_i c2;exact absurd h c2
  ·rename_i c2
   rw [if_neg c2]
   have:=aBs t.parts [] _ rfl (by omega)
   simpa using this
theorem aNx {p:Posted} (hf:Fit p) (h:(bU p.total).2=0):(bU p.total).1.parts.length≤12∧∀ q∈(bU p.total).1.parts,q.cat.length≤1000000:=by
 have:=aKi p.total h
 refine ⟨by have:=xO p.total;have:=hf.1;omega,fun q hq=>?_⟩
 have hm:q.cat∈p.total.parts.map (·.cat):=by rw [←this];exact List.mem_map_of_mem hq
 obtain ⟨q',hq',e⟩:=List.mem_map.1 hm
 rw [←e];exact hf.2 q' hq'
structure Cmd where
 kind:Int
 series:List UInt8
 limit:Int
 row:Rate
 day:Date
 lines:List Line
 of:Ref
 session:Int
def Cmd.cells (c:Cmd) (lv:V):List V:=[.int .i64 c.kind,.str c.series,.int .i64 c.limit,.str c.row.cat,.int .i64 c.row.day.y,.int .i64 c.row.day.m,.int .i64 c.row.day.d,.int .i64 c.row.bp,.int .i64 c.day.y,.int .i64 c.day.m,.int .i64 c.day.d,lv,.str c.of.ser,.int .i64 c.of.num,.int .i64 c.session]
def mD (s:State) (c:Cmd):State×Rep:=
 if (dL s.table c.day c.lines).2≠0 then (s,why (dL s.table c.day c.lines).2) else bO s c.series ⟨Ref.zero,c.day,(dL s.table c.day c.lines).1,Ref.zero,false⟩
def Posted.zero:Posted:=⟨Ref.zero,⟨0,0,0⟩,Total.zero,Ref.zero,false⟩
def fQ (l:List Posted) (k:Nat):List Posted:=match l[k]? with
 | none=>l
 | some p=>l.set k { p with back:=true }
def fV (s:State) (c:Cmd) (k:Nat) (p:Posted):State×Rep:=
 if p.back=true then (s,why 12) else if p.of=Ref.zero then
  (if c.day.right=false then (s,why 9) else if c.day.before p.day=true then (s,why 9) else if (bU p.total).2≠0 then (s,why (bU p.total).2) else
   if (bO s c.series ⟨Ref.zero,c.day,(bU p.total).1,c.of,false⟩).2.why=0 then
    ({ (bO s c.series ⟨Ref.zero,c.day,(bU p.total).1,c.of,false⟩).1 with posted:=fQ (bO s c.series ⟨Ref.zero,c.day,(bU p.total).1,c.of,false⟩).1.posted k },(bO s c.series ⟨Ref.zero,c.day,(bU p.total).1,c.of,false⟩).2)
   else bO s c.series ⟨Ref.zero,c.day,(bU p.total).1,c.of,false⟩) else (s,why 12)
def fC (s:State) (c:Cmd):State×Rep:=
 if cM s.posted c.of<0 then (s,why 11) else fV s c (cM s.posted c.of).toNat (s.posted.getD (cM s.posted c.of).toNat Posted.zero)
theorem aGe (s:State) (name:List UInt8) (p:Posted):∃ l,(bO s name p).1.posted=s.posted++l:=by
 unfold bO
 repeat' split
 all_goals first | exact ⟨[],(List.append_nil _).symm⟩ | exact ⟨_,rfl⟩
def gG (s:State) (r:List Ser×Int):State×Rep:=if r.2=0 then ({ s with ser:=r.1 },why r.2) else (s,why r.2)
def kH (s:State) (r:List Rate×Int):State×Rep:=if r.2=0 then ({ s with table:=r.1 },why r.2) else (s,why r.2)
def iE (s:State) (r:List Sess×Int):State×Rep:=if r.2=0 then ({ s with sess:=r.1 },why r.2) else (s,why r.2)
def sS (s:State) (c:Cmd):State×Rep:=
 if c.kind=1 then gG s (fB s.ser c.series c.limit) else if c.kind=2 then gG s (oG s.ser c.series) else if c.kind=3 then kH s (gV s.table c.row) else
  if c.kind=4 then mD s c else if c.kind=5 then fC s c else if c.kind=7 then iE s (gB s.sess c.session) else (s,aI3 s c.series)
def gH (s:State):State×Rep:=
 if 8≤s.sess.length∨1099511627776≤s.next then (s,why 14) else if (mW s.sess s.next).2≠0 then (s,why (mW s.sess s.next).2) else
  ({ s with sess:=(mW s.sess s.next).1,next:=wr .i64 (s.next+1) },⟨0,s.next,0⟩)
structure Call where
 session:Int
 seq:Int
 cmd:Cmd
def Call.cells (c:Call) (lv:V):List V:=[.int .i64 c.session,.int .i64 c.seq]++c.cmd.cells lv
def gY (r:State×Rep) (c:Call):State×Rep:=if (jL r.1.sess c.session c.seq r.2).2=0 then ({ r.1 with sess:=(jL r.1.sess c.session c.seq r.2).1 },r.2) else r
def fR (s:State) (c:Call):State×Rep:=
 if cD s=false then (s,why 1) else if c.cmd.kind<1∨8<c.cmd.kind then (s,why 17) else if c.cmd.kind=6 then gH s else
  if (cL s.sess c.session c.seq).2.2≠0 then (s,why (cL s.sess c.session c.seq).2.2) else if (cL s.sess c.session c.seq).2.1=true then (s,(cL s.sess c.session c.seq).1) else gY (sS s c.cmd) c
theorem nN {s:State} (h:cD s=true):iG s.posted=true:=by
 unfold cD at h
 repeat' split at h
 all_goals first | cases h | skip
 rename_i h4 _ _
 simpa using h4
structure Sml (s:State):Prop where
 st:s.table.length≤1000
 ss:s.ser.length≤1000
 sp:s.posted.length≤1000
 sb:s.book.length≤10000
 se:s.sess.length≤1000
 sq:∀ p∈s.posted,p.total.parts.length≤1000
theorem Sml.bnd {s:State} (h:Sml s):Bnd s:=⟨by have:=h.st;omega,by have:=h.ss;omega,by have:=h.sp;omega,by have:=h.sb;omega,by have:=h.se;omega,fun p hp=>by have:=h.sq p hp;omega⟩
theorem Sml.new:Sml State.new:=⟨by decide,by decide,by decide,by decide,by decide,fun p hp=>by cases hp⟩
theorem zF {s:State} (h:cD s=true):s.table.length≤24∧s.ser.length≤8∧s.sess.length≤8∧s.posted.length≤40∧s.book.length≤1000∧(∀ p∈s.posted,p.total.parts.length≤12)∧s.book=(eB s.posted).1:=by
 unfold cD at h
 split at h
 ·cases h
 ·rename_i h1
  split at h
  ·cases h
  ·rename_i h2
   split at h
   ·cases h
   ·rename_i h3
    split at h
    ·cases h
    ·rename_i h4
     split at h
     ·cases h
     ·split at h
      ·have hb:=of_decide_eq_true h
       have h4':iG s.posted=true:=by simpa using h4
       obtain ⟨p1,p2⟩:=mC h4'
       have hparts:∀ p∈s.posted,p.total.parts.length≤12:=fun p hp=>iO (p2 p hp).2
       have hl:=qT s.posted [] (eB s.posted) hparts rfl
       have hs:gF s.sess=true:=by
        unfold jW at h3
        by_cases c:gF s.sess=true
        ·exact c
        ·rw [if_neg c] at h3;exact absurd rfl h3
       refine ⟨tS (by simpa using h1),oF (by simpa using h2),lR hs,p1,?_,hparts,hb.symm⟩
       rw [←hb]
       simp only [List.length_nil] at hl
       omega
      ·cases h
theorem aBt {s:State} (h:Sml s) (h1:s.ser.length≤8) (h2:s.posted.length≤40) (h3:s.book.length≤1000) (name:List UInt8) (p:Posted) (hp:p.total.parts.length≤12):Sml (bO s name p).1:=by
 unfold bO
 split
 ·exact h
 ·split
  ·exact h
  ·split
   ·exact h
   ·rename_i c3
    split
    ·exact h
    ·refine ⟨h.st,?_,?_,?_,h.se,?_⟩
     ·show (dC s.ser name).1.length≤1000
      unfold dC
      repeat' split
      all_goals simp
      omega
     ·show (s.posted++_).length≤1000
      simp only [List.length_append,List.length_cons,List.length_nil];omega
     ·show (cZ s.book (eI p.total).1).1.length≤10000
      have:=tU s.book (eI p.total).1
      have:=(vX p.total).resolve_right c3
      omega
     ·intro q hq
      rcases List.mem_append.1 hq with hq | hq
      ·exact h.sq q hq
      ·rw [List.mem_singleton.1 hq]
       show p.total.parts.length≤1000
       omega
theorem aI4 (l:List Posted) (k:Nat) (h:∀ p∈l,p.total.parts.length≤1000):(fQ l k).length=l.length∧∀ p∈fQ l k,p.total.parts.length≤1000:=by
 unfold fQ
 split
 ·exact ⟨rfl,h⟩
 ·rename_i p hp
  refine ⟨List.length_set ..,fun q hq=>?_⟩
  rcases List.mem_or_eq_of_mem_set hq with hq | rfl
  ·exact h q hq
  ·exact h p (List.mem_of_getElem? hp)
theorem oI {α:Type} (l:List α) (i:Nat) (a:α):(fG l i a).length≤l.length+1:=by
 simp only [fG,List.length_append,List.length_cons,List.length_take,List.length_drop];omega
theorem aXa {s:State} (h:Sml s) (hr:cD s=true) (c:Cmd):Sml (sS s c).1:=by
 obtain ⟨r1,r2,r3,r4,r5,r6,_⟩:=zF hr
 unfold sS
 split
 ·unfold gG
  split
  ·refine ⟨h.st,?_,h.sp,h.sb,h.se,h.sq⟩
   show (fB s.ser c.series c.limit).1.length≤1000
   unfold fB
   repeat' split
   all_goals first | (simp;done) | (refine Nat.le_trans (oI _ _ _) ?_;omega)
  ·exact h
 ·split
  ·unfold gG
   split
   ·refine ⟨h.st,?_,h.sp,h.sb,h.se,h.sq⟩
    show (oG s.ser c.series).1.length≤1000
    unfold oG
    repeat' split
    all_goals simp
    omega
   ·exact h
  ·split
   ·unfold kH
    split
    ·refine ⟨?_,h.ss,h.sp,h.sb,h.se,h.sq⟩
     show (gV s.table c.row).1.length≤1000
     unfold gV
     repeat' split
     all_goals first | (simp;done) | (refine Nat.le_trans (oI _ _ _) ?_;omega)
    ·exact h
   ·split
    ·unfold mD
     split
     ·exact h
     ·rename_i c1
      exact aBt h r2 r4 r5 _ _ (tV (by omega)).1
    ·split
     ·unfold fC
      split
      ·exact h
      ·rename_i c1
       unfold fV
       split
       ·exact h
       ·split
        ·split
         ·exact h
         ·split
          ·exact h
          ·split
           ·exact h
           ·rename_i c4
            have hpar:(s.posted.getD (cM s.posted c.of).toNat Posted.zero).total.parts.length≤12:=by
             rw [List.getD_eq_getElem?_getD]
             cases hg:s.posted[(cM s.posted c.of).toNat]? with
             | none=>exact Nat.zero_le _
             | some p=>exact r6 p (List.mem_of_getElem? hg)
            have hbl:=xO (s.posted.getD (cM s.posted c.of).toNat Posted.zero).total
            have hi:=aBt h r2 r4 r5 c.series ⟨Ref.zero,c.day,(bU (s.posted.getD (cM s.posted c.of).toNat Posted.zero).total).1,c.of,false⟩ (Nat.le_trans hbl hpar)
            split
            ·obtain ⟨e1,e2⟩:=aI4 _ (cM s.posted c.of).toNat hi.sq
             exact ⟨hi.st,hi.ss,by rw [e1];exact hi.sp,hi.sb,hi.se,e2⟩
            ·exact hi
        ·exact h
     ·split
      ·unfold iE
       split
       ·refine ⟨h.st,h.ss,h.sp,h.sb,?_,h.sq⟩
        show (gB s.sess c.session).1.length≤1000
        unfold gB
        repeat' split
        all_goals first | (simp;done) | (simp only [tR,List.length_append,List.length_take,List.length_drop];omega)
       ·exact h
      ·exact h
theorem aNy (l:List Sess) (id seq:Int) (r:Rep):(jL l id seq r).1.length≤l.length:=by
 unfold jL
 repeat' split
 all_goals simp
theorem aKj {s:State} (h:Sml s) (c:Call):Sml (fR s c).1:=by
 unfold fR
 split
 ·exact h
 ·rename_i hr
  have hr:cD s=true:=by simpa using hr
  split
  ·exact h
  ·split
   ·unfold gH
    split
    ·exact h
    ·split
     ·exact h
     ·obtain ⟨_,_,r3,_⟩:=zF hr
      refine ⟨h.st,h.ss,h.sp,h.sb,?_,h.sq⟩
      show (mW s.sess s.next).1.length≤1000
      unfold mW
      repeat' split
      all_goals first | (simp;done) | (refine Nat.le_trans (oI _ _ _) ?_;omega)
   ·split
    ·exact h
    ·split
     ·exact h
     ·have hd:=aXa h hr c.cmd
      unfold gY
      split
      ·exact ⟨hd.st,hd.ss,hd.sp,hd.sb,by have:=aNy (sS s c.cmd).1.sess c.session c.seq (sS s c.cmd).2;have:=hd.se;show (jL _ _ _ _).1.length≤1000;omega,hd.sq⟩
      ·exact hd
def pI (c:Call):Call:={ c with cmd:={ c.cmd with lines:=c.cmd.lines.take 15 } }
def qU (l:List Call) (n:Nat):List Call:=(l.take n).map pI
def bF4:List V:=[.int .i64 0,.int .i64 0,.int .i64 0,.str [],.int .i64 0,.str [],.int .i64 0,.int .i64 0,.int .i64 0,.int .i64 0,.int .i64 0,.int .i64 0,.int .i64 0,.nils,.str [],.int .i64 0,.int .i64 0]
def qV (st:State×List Rep) (c:Call):State×List Rep:=((fR st.1 c).1,st.2++[(fR st.1 c).2])
def playM (s:State) (l:List Call):State×List Rep:=l.foldl qV (s,[])
def aLu (st:State×List Rep) (c:Call):(State×List Rep)⊕(State×List Rep):=.inr (qV st c)
theorem aDs:∀ (l:List Call) (st:State×List Rep),aR aLu id l st=l.foldl qV st
 | [],st=>rfl
 | c::l,st=>by simp only [aR,aLu,List.foldl_cons];exact aDs l _
theorem aQb (l:List Call) (n:Nat):(qU l n).length≤n:=by simp only [qU,List.length_map,List.length_take];omega
end Go.Proofs.YtoaibmbldmckaaaGreat
end
section
namespace Go.AM
def qW {α:Type} (a:α):Option (List α)→Option (List α)
 | some l=>some (a::l)
 | none=>none
def wF:List V→Nat→Option (List V)
 | _,0=>some []
 | [],_+1=>none
 | a::l,n+1=>qW a (wF l n)
def qX:List V→Nat→List V→Option (List V)
 | cs,0,[]=>some cs
 | [],0,_::_=>none
 | _::cs,0,x::xs=>qW x (qX cs 0 xs)
 | [],_+1,_=>none
 | c::cs,j+1,xs=>qW c (qX cs j xs)
def oJ:List V→Nat→Bool
 | [],0=>true
 | _::l,n+1=>oJ l n
 | _,_=>false
def aGf {α:Type}:List α→Nat→α→Option (List α)
 | [],_,_=>none
 | _::l,0,x=>some (x::l)
 | a::l,i+1,x=>qW a (aGf l i x)
theorem aI5:∀ (l:List V) (n:Nat),wF l n=if n≤l.length then some (l.take n) else none
 | l,0=>by cases l<;>simp [wF]
 | [],n+1=>by simp [wF]
 | a::l,n+1=>by
  simp only [wF,aI5 l n,List.length_cons,Nat.add_le_add_iff_right,List.take_succ_cons]
  split<;>rfl
theorem wG:∀ (cs:List V) (j:Nat) (xs:List V),qX cs j xs=if j+xs.length≤cs.length then some (splice cs j xs) else none
 | cs,0,[]=>by cases cs<;>simp [qX,splice]
 | [],0,x::xs=>by simp [qX]
 | c::cs,0,x::xs=>by
  have h:=wG cs 0 xs
  simp only [qX,h,List.length_cons,splice,List.take_zero,List.nil_append,Nat.zero_add]
  by_cases c1:xs.length≤cs.length
  ·rw [if_pos c1,if_pos (by omega)];simp [qW]
  ·rw [if_neg c1,if_neg (by omega)];rfl
 | [],j+1,xs=>by simp [qX]
 | c::cs,j+1,xs=>by
  have h:=wG cs j xs
  simp only [qX,h,List.length_cons,splice]
  by_cases c1:j+xs.length≤cs.length
  ·rw [if_pos c1,if_pos (by omega)]
   simp only [qW,List.take_succ_cons,List.cons_append,show j+1+xs.length=(j+xs.length)+1 by omega,List.drop_succ_cons]
  ·rw [if_neg c1,if_neg (by omega)];rfl
theorem wH:∀ (l:List V) (n:Nat),oJ l n=decide (l.length=n)
 | [],0=>rfl
 | [],n+1=>by simp [oJ]
 | a::l,0=>by simp [oJ]
 | a::l,n+1=>by simp [oJ,wH l n]
theorem aLv {α:Type}:∀ (l:List α) (i:Nat) (x:α),aGf l i x=if i<l.length then some (l.set i x) else none
 | [],i,x=>by simp [aGf]
 | a::l,0,x=>by simp [aGf]
 | a::l,i+1,x=>by
  simp only [aGf,aLv l i x,List.length_cons,Nat.add_lt_add_iff_right,List.set_cons_succ]
  split<;>rfl
theorem pt2 (n:Nat) (cs:List V) (j:Nat):gO (some (n+1)) cs j=(match wF (cs.drop j) (n+1) with
  | some l=>.ok (.agg l)
  | none=>.error "part"):=by
 simp only [gO,aI5,List.length_drop]
 by_cases c:j+(n+1)≤cs.length
 ·rw [if_pos c,if_pos (by omega)]
 ·rw [if_neg c,if_neg (by omega)]
theorem mJ (n a ver i j:Nat) (x:V) (S:St):aV n (.ptr a ver i j) x S=(match aI S a ver with
  | .error e=>.error e
  | .ok (es,elems)=>match elems[i]? with
   | some cs=>(match oJ x.cells n&&aN x.cells with
    | true=>(match qX cs j x.cells with
     | some cs'=>.ok ⟨S.next,S.heap.put a (.row ver es (elems.set i cs'))⟩
     | none=>.error "store: the size")
    | false=>.error "store: the size")
   | none=>.error "store"):=by
 simp only [aV,wG,wH]
 cases aI S a ver with
 | error e=>rfl
 | ok r=>
  obtain ⟨es,elems⟩:=r
  simp only
  cases elems[i]? with
  | none=>rfl
  | some cs=>
   simp only
   by_cases c1:x.cells.length=n
   ·cases c2:aN x.cells
    ·simp [c1]
    ·by_cases c3:j+x.cells.length≤cs.length
     ·rw [if_pos ⟨c1,rfl,c3⟩];simp [c1];simp [←c1,c3]
     ·rw [if_neg (fun h=>c3 h.2.2)];simp [c1];simp [←c1,c3]
   ·rw [if_neg (fun h=>c1 h.1)];simp [c1]
theorem bw0 (z:List V) (pl:List (Nat×Nat)):bM z pl []=.ok (.agg z):=rfl
theorem bw1 (z:List V) (pl:List (Nat×Nat)) (i:Nat) (v:V) (rest:List (Nat×V)):bM z pl ((i,v)::rest)=(match pl[i]? with
  | none=>.error "fill"
  | some (off,size)=>(match oJ v.cells size&&aN v.cells with
   | true=>(match qX z off v.cells with
    | some z'=>bM z' pl rest
    | none=>.error "fill")
   | false=>.error "fill")):=by
 simp only [bM,qA]
 cases pl[i]? with
 | none=>rfl
 | some p=>
  obtain ⟨off,size⟩:=p
  simp only [wG,wH,cond_eq_ite]
  by_cases c1:v.cells.length=size
  ·cases c2:aN v.cells
   ·simp [c1]
   ·by_cases c3:off+v.cells.length≤z.length
    ·have h1:Nat.beq v.cells.length size=true:=by simpa using c1
     have h2:Nat.ble (off+v.cells.length) z.length=true:=Nat.ble_eq_true_of_le c3
     simp [h1,h2,c1]
     simp [←c1,c3]
    ·have h2:Nat.ble (off+v.cells.length) z.length=false:=by
      cases h:Nat.ble (off+v.cells.length) z.length with
      | false=>rfl
      | true=>exact absurd (Nat.le_of_ble_eq_true h) c3
     simp [h2,c1]
     simp [←c1,c3]
  ·have h1:Nat.beq v.cells.length size=false:=by
    cases h:Nat.beq v.cells.length size with
    | false=>rfl
    | true=>exact absurd (Nat.eq_of_beq_eq_true h) c1
   simp [h1,c1]
theorem lv1 (es:Nat) (elems:List (List V)) (i:Nat) (v:V) (rest:List (Nat×V)):sE es elems ((i,v)::rest)=(match oJ v.cells es&&aN v.cells with
  | true=>(match aGf elems i v.cells with
   | some e=>sE es e rest
   | none=>.error "buildSlice")
  | false=>.error "buildSlice"):=by
 simp only [sE,aLv,wH,cond_eq_ite]
 by_cases c1:v.cells.length=es
 ·have h1:Nat.beq v.cells.length es=true:=by simpa using c1
  cases c2:aN v.cells
  ·simp [c1]
  ·by_cases c3:i<elems.length
   ·have h2:Nat.blt i elems.length=true:=by simpa using c3
    simp [h1,h2,c1,c3]
   ·have h2:Nat.blt i elems.length=false:=by
     cases h:Nat.blt i elems.length with
     | false=>rfl
     | true=>exact absurd (by simpa using h) c3
    simp [h2,c1,c3]
 ·have h1:Nat.beq v.cells.length es=false:=by
   cases h:Nat.beq v.cells.length es with
   | false=>rfl
   | true=>exact absurd (Nat.eq_of_beq_eq_true h) c1
  simp [h1,c1]
theorem aY2:(∀ {α:Type} (a:α) (l:List α),qW a (some l)=some (a::l))∧(∀ l:List V,wF l 0=some [])∧(∀ (a:V) (l:List V) (n:Nat),wF (a::l) (n+1)=qW a (wF l n)) ∧
  (∀ cs:List V,qX cs 0 []=some cs)∧(∀ (c x:V) (cs xs:List V),qX (c::cs) 0 (x::xs)=qW x (qX cs 0 xs))∧(∀ (c:V) (cs:List V) (j:Nat) (xs:List V),qX (c::cs) (j+1) xs=qW c (qX cs j xs)) ∧
  oJ [] 0=true∧(∀ (a:V) (l:List V) (n:Nat),oJ (a::l) (n+1)=oJ l n)∧(∀ {α:Type} (a:α) (l:List α) (x:α),aGf (a::l) 0 x=some (x::l))∧(∀ {α:Type} (a:α) (l:List α) (i:Nat) (x:α),aGf (a::l) (i+1) x=qW a (aGf l i x)) ∧
  type_of% pt2∧(∀ (n a j:Nat) (x:V) (S:St),type_of% (mJ n a 0 0 j x S))∧type_of% bw0∧type_of% bw1∧type_of% lv1∧(∀ (es:Nat) (l:List (List V)),sE es l []=.ok l):=
 ⟨fun _ _=>rfl,fun l=>by cases l<;>rfl,fun _ _ _=>rfl,fun cs=>by cases cs<;>rfl,fun _ _ _ _=>rfl,fun _ _ _ _=>by simp only [qX],rfl,fun _ _ _=>rfl,fun _ _ _=>rfl,fun _ _ _ _=>rfl,pt2,fun n a j x S=>mJ n a 0 0 j x S,bw0,bw1,lv1,fun _ _=>rfl⟩
section
section
variable {P:Program}
theorem aXb (b:Bool) (x y:Prop):aE (.bool b) x y=if b=true then x else y:=by cases b<;>rfl
theorem ldP (k:Option Nat) (a ver i j:Nat) (S:St):bB k (.ptr a ver i j) S=(match aI S a ver with
  | .error e=>.error e
  | .ok (_,elems)=>match elems[i]? with
   | some cs=>gO k cs j
   | none=>.error "load"):=rfl
theorem ptN (cs:List V) (j:Nat):gO none cs j=(match cs[j]? with
  | some v=>.ok v
  | none=>.error "part"):=rfl
theorem grS (n:Nat) (h:Tr Blk) (a ver es:Nat) (el:List (List V)):aI ⟨n,h.put a (.row ver es el)⟩ a ver=.ok (es,el):=aS ..
theorem iQ {c a:Nat} (hc:c≠a) (n:Nat) (h:Tr Blk) (ver:Nat) (b:Blk):aI ⟨n,h.put a b⟩ c ver=aI ⟨n,h⟩ c ver:=cY n n h a c ver b hc
theorem nb0 (S:St) (b:Blk):aK none S b=.ok (S.next,⟨S.next+1,S.heap.put S.next b⟩):=fL S b
theorem nb1 (k:Nat) (S:St) (b:Blk):aK (some k) S b=.ok (k,⟨S.next,S.heap.put k b⟩):=lM k S b
theorem stP (n a ver i j:Nat) (x:V) (S:St):aV n (.ptr a ver i j) x S=(match aI S a ver with
  | .error e=>.error e
  | .ok (es,elems)=>match elems[i]? with
   | some cs=>if x.cells.length=n∧aN x.cells=true∧j+x.cells.length≤cs.length then .ok ⟨S.next,S.heap.put a (.row ver es (elems.set i (splice cs j x.cells)))⟩ else .error "store: the size"
   | none=>.error "store"):=rfl
theorem ixI {α:Type} {l:List α} {enc:α→List V} {i:Nat} {a:α} {n:Nat} (hi:l[i]?=some a) (hn:(enc a).length=n) (k:IntKind):cU n (.imm (l.map enc)) (.int k (i:Int))=.ok (.iptr (enc a) 0):=by
 have hil:=(List.getElem?_eq_some_iff.1 hi).1
 have hx:(l.map enc)[i]?=some (enc a):=by rw [List.getElem?_map,hi];rfl
 simp only [cU,List.length_map,kO hil,hx]
 simp only [hn,if_true]
theorem okI {α:Type} (a b:α):((Except.ok a:R α)=.ok b)=(a=b):=by simp
end
theorem kit:(∀ {α:Type} (a:α) (K:α→Prop),wR (.ok a) K=K a)∧(∀ {α:Type} (a:α) (K:α→Prop),wO (some a) K=K a)∧(∀ x:Prop,bP true x=x)∧(∀ (b:Bool) (x y:Prop),aE (.bool b) x y=if b=true then x else y) ∧
  (∀ (v:V) (r:List V) (K:V→List V→Prop),dX (v::r) K=K v r)∧(∀ (vs:List V) (i:Nat) (K:V→Prop),bF (.tup vs) i K=wO vs[i]? K)∧(∀ (a b c d:Nat) (x:Prop),gJ (.ptr a b c d) x=x)∧(∀ (a:List V) (b:Nat) (x:Prop),gJ (.iptr a b) x=x) ∧
  (∀ b:Bool,jH .not (.bool b)=.ok (.bool !b))∧(∀ v:V,dN v v=true):=
 ⟨fun _ _=>rfl,fun _ _=>rfl,fun _=>rfl,aXb,fun _ _ _=>rfl,fun _ _ _=>rfl,fun _ _ _ _ _=>rfl,fun _ _ _=>rfl,fun _=>rfl,xJ⟩
theorem bF6 (P:Program):(∀ (t:TypeId) (k:IntKind) (a b:Int),aF P .add t (.int k a) (.int k b)=.ok (.int k (wr k (a+b))))∧(∀ (t:TypeId) (k:IntKind) (a b:Int),aF P .sub t (.int k a) (.int k b)=.ok (.int k (wr k (a - b)))) ∧
  (∀ (t:TypeId) (k:IntKind) (a b:Int),aF P .mul t (.int k a) (.int k b)=.ok (.int k (wr k (a*b))))∧(∀ (t:TypeId) (k:IntKind) (a b:Int),aF P .lss t (.int k a) (.int k b)=.ok (.bool (decide (a<b)))) ∧
  (∀ (t:TypeId) (k:IntKind) (a b:Int),aF P .leq t (.int k a) (.int k b)=.ok (.bool (decide (a≤b))))∧(∀ (t:TypeId) (k:IntKind) (a b:Int),aF P .gtr t (.int k a) (.int k b)=.ok (.bool (decide (b<a)))) ∧
  (∀ (t:TypeId) (k:IntKind) (a b:Int),aF P .geq t (.int k a) (.int k b)=.ok (.bool (decide (b≤a))))∧(∀ (t:TypeId) (k:IntKind) (a b:Int),aF P .eql t (.int k a) (.int k b)=.ok (.bool (decide (a=b)))) ∧
  (∀ (t:TypeId) (k:IntKind) (a b:Int),aF P .neq t (.int k a) (.int k b)=.ok (.bool (!decide (a=b)))) ∧
  (∀ (t:TypeId) (j k:IntKind) (a b:Int),aJ P t (.int j a) (.int k b)=true)∧(∀ (t:TypeId) (x y:List UInt8),aJ P t (.str x) (.str y)=true)∧(∀ (t:TypeId) (x y:Bool),aJ P t (.bool x) (.bool y)=true) ∧
  (∀ (t:TypeId) (x y:List UInt8),aF P .eql t (.str x) (.str y)=.ok (.bool (x == y)))∧(∀ (t:TypeId) (x y:List UInt8),aF P .neq t (.str x) (.str y)=.ok (.bool (!(x == y)))) ∧
  (∀ (t:TypeId) (x y:List UInt8),aF P .lss t (.str x) (.str y)=.ok (.bool (fY x y)))∧(∀ (t:TypeId) (x y:List UInt8),aF P .geq t (.str x) (.str y)=.ok (.bool (!fY x y))) ∧
  (∀ (t:TypeId) (k:IntKind) (a b:Int),b≠0→aF P .quo t (.int k a) (.int k b)=.ok (.int k (wr k (a.tdiv b))))∧(∀ (t:TypeId) (k:IntKind) (a b:Int),b≠0→aF P .rem t (.int k a) (.int k b)=.ok (.int k (a.tmod b))):=
 ⟨aRx P,aRy P,aRz P,aS1 P,aS2 P,aS3 P,aS4 P,aS5 P,aS6 P,fun _ _ _ _ _=>rfl,fun _ _ _=>rfl,fun _ _ _=>rfl,aS7 P,aS8 P,aS9 P,aSa P,fun _ _ _ _ h=>aS0 P _ _ _ _ h,fun _ _ _ _ h=>aLj P _ _ _ _ h⟩
theorem bF7 : (∀ (k : Option Nat) (a j : Nat) (S : St), bB k (.ptr a 0 0 j) S = (match aI S a 0 with
      | .error e => .error e
      | .ok (_, elems) => match elems[0]? with
        | some cs => gO k cs j
        | none => .error "load")) ∧ (∀ (k : Option Nat) (cs : List V) (j : Nat) (S : St), bB k (.iptr cs j) S = gO k cs j) ∧
    (∀ (cs : List V) (j : Nat), gO none cs j = (match cs[j]? with
      | some v => .ok v
      | none => .error "part")) ∧
    (∀ off a ver i j : Nat, advW off (.ptr a ver i j) = .ok (.ptr a ver i (j + off))) ∧ (∀ (off : Nat) (cs : List V) (j : Nat), advW off (.iptr cs j) = .ok (.iptr cs (j + off))) ∧
    (∀ (n : Nat) (h : Tr Blk) (a ver es : Nat) (el : List (List V)), aI ⟨n, h.put a (.row ver es el)⟩ a ver = .ok (es, el)) ∧ (∀ (S : St) (b : Blk), aK none S b = .ok (S.next, ⟨S.next + 1, S.heap.put S.next b⟩)) ∧
    (∀ (k : Nat) (S : St) (b : Blk), aK (some k) S b = .ok (k, ⟨S.next, S.heap.put k b⟩)) ∧ (∀ cs : List V, (V.agg cs).cells = cs) ∧ (∀ b : Bool, (V.bool b).cells = [.bool b]) ∧ (∀ (k : IntKind) (n : Int), (V.int k n).cells = [.int k n]) ∧
    (∀ s : List UInt8, (V.str s).cells = [.str s]) ∧ (∀ es : List (List V), (V.imm es).cells = [.imm es]) ∧ V.nils.cells = [.nils] ∧ (∀ a b c d : Nat, (V.ptr a b c d).cells = [.ptr a b c d]) ∧ (∀ a b c d e : Nat, (V.sl a b c d e).cells = [.sl a b c d e]) ∧
    (∀ (f : FuncId) (a b : List V), (V.func f a b).cells = [.func f a b]) ∧ aN [] = true ∧ (∀ (v : V) (l : List V), aN (v :: l) = (v.one && aN l)) ∧ (∀ b : Bool, (V.bool b).one = true) ∧ (∀ (k : IntKind) (n : Int), (V.int k n).one = true) ∧ (∀ s : List UInt8, (V.str s).one = true) ∧
    (∀ es : List (List V), (V.imm es).one = true) ∧ V.nils.one = true ∧ (∀ a b c d : Nat, (V.ptr a b c d).one = true) ∧ (∀ a b c d e : Nat, (V.sl a b c d e).one = true) ∧ (∀ (f : FuncId) (a b : List V), (V.func f a b).one = true) ∧
    (∀ es : List (List V), lenW (.imm es) = .ok (.int .i64 es.length)) ∧ lenW .nils = .ok (.int .i64 0) ∧ (∀ a b c d e : Nat, lenW (.sl a b c d e) = .ok (.int .i64 e)) ∧
    (∀ (S : St) (b : Bool), bX S (.bool b) = .ok (.bool b)) ∧ (∀ (S : St) (k : IntKind) (n : Int), bX S (.int k n) = .ok (.int k n)) ∧ (∀ (S : St) (s : List UInt8), bX S (.str s) = .ok (.str s)) ∧ (∀ (S : St) (es : List (List V)), bX S (.imm es) = .ok (.imm es)) ∧
    (∀ {α : Type} (a b : α), ((Except.ok a : R α) = .ok b) = (a = b)) :=
  ⟨fun _ _ _ _ => rfl, fun _ _ _ _ => rfl, fun _ _ => rfl, fun _ _ _ _ _ => rfl, fun _ _ _ => rfl, grS, nb0, nb1, fun _ => rfl, fun _ => rfl, fun _ _ => rfl, fun _ => rfl, fun _ => rfl, rfl, fun _ _ _ _ => rfl, fun _ _ _ _ _ => rfl, fun _ _ _ => rfl, rfl, fun _ _ => rfl,
    fun _ => rfl, fun _ _ => rfl, fun _ => rfl, fun _ => rfl, rfl, fun _ _ _ _ => rfl, fun _ _ _ _ _ => rfl, fun _ _ _ => rfl, fun _ => rfl, rfl, fun _ _ _ _ _ => rfl, fun _ _ => rfl, fun _ _ _ => rfl, fun _ _ => rfl, fun _ _ => rfl, okI⟩
end
end Go.AM
end
section
namespace Go.Proofs.YtoaibmbldmckaaaGreat
open Go.AM Tryz
theorem fx : (∀ (s x : V) (fr : Option Nat) (S : St), aW prog 102 s x fr S = dK 23 224 s x fr S) ∧ (∀ (s x : V) (fr : Option Nat) (S : St), aW prog 22 s x fr S = dK 1 1 s x fr S) ∧ (∀ (s x : V) (fr : Option Nat) (S : St), aW prog 24 s x fr S = dK 5 48 s x fr S) ∧ (∀ (s x : V) (fr : Option Nat) (S : St), aW prog 25 s x fr S = dK 4 40 s x fr S) ∧ (∀ (s x : V) (fr : Option Nat) (S : St), aW prog 26 s x fr S = dK 12 128 s x fr S) ∧ (∀ (s x : V) (fr : Option Nat) (S : St), aW prog 27 s x fr S = dK 2 24 s x fr S) ∧ (∀ (s x : V) (fr : Option Nat) (S : St), aW prog 28 s x fr S = dK 5 40 s x fr S) ∧ (∀ (s x : V) (fr : Option Nat) (S : St), aW prog 44 s x fr S = dK 17 176 s x fr S) ∧ (∀ (s x : V) (fr : Option Nat) (S : St), aW prog 55 s x fr S = dK 4 48 s x fr S) ∧ (∀ (s x : V) (fr : Option Nat) (S : St), aW prog 62 s x fr S = dK 3 24 s x fr S) ∧ (∀ (s x : V) (fr : Option Nat) (S : St), aW prog 71 s x fr S = dK 4 40 s x fr S) ∧ (∀ (s x : V) (fr : Option Nat) (S : St), aW prog 80 s x fr S = dK 4 40 s x fr S) ∧ (∀ (s x : V) (fr : Option Nat) (S : St), aW prog 96 s x fr S = dK 1 8 s x fr S) ∧ (∀ (s x : V) (fr : Option Nat) (S : St), aW prog 97 s x fr S = dK 23 224 s x fr S) ∧ (∀ (parts : List (Nat × V)), aP prog 126 parts = bM [.str [],.int .i64 0,.int .i64 0,.bool false] [(0, 1), (1, 1), (2, 1), (3, 1)] parts) ∧ (∀ (parts : List (Nat × V)), aP prog 132 parts = bM [.int .i64 0,.int .i64 0,.int .i64 0,.int .i64 0,.int .i64 0] [(0, 1), (1, 1), (2, 3)] parts) ∧ (∀ (parts : List (Nat × V)), aP prog 142 parts = bM [.nils,.int .i64 0,.int .i64 0] [(0, 1), (1, 1), (2, 1)] parts) ∧ (∀ (parts : List (Nat × V)), aP prog 145 parts = bM [.str [],.int .i64 0,.int .i64 0,.int .i64 0] [(0, 1), (1, 1), (2, 1), (3, 1)] parts) ∧ (∀ (parts : List (Nat × V)), aP prog 160 parts = bM [.nils] [(0, 1)] parts) ∧ (∀ (parts : List (Nat × V)), aP prog 201 parts = bM [.str [],.str [],.int .i64 0,.int .i64 0] [(0, 1), (1, 1), (2, 1), (3, 1)] parts) ∧ (∀ (parts : List (Nat × V)), aP prog 207 parts = bM [.int .i64 0,.int .i64 0,.int .i64 0,.str [],.int .i64 0,.str [],.int .i64 0,.int .i64 0,.int .i64 0,.int .i64 0,.int .i64 0,.int .i64 0,.int .i64 0,.nils,.str [],.int .i64 0,.int .i64 0,.int .i64 0,.int .i64 0,.int .i64 0,.int .i64 0,.int .i64 0,.int .i64 0] [(0, 17), (17, 1), (18, 1), (19, 1), (20, 3)] parts) ∧ (∀ (parts : List (Nat × V)), aP prog 212 parts = bM [.nili] [(0, 1)] parts) ∧ (∀ (parts : List (Nat × V)), aP prog 225 parts = bM [.nils,.int .i64 0,.int .i64 0] [(0, 1), (1, 1), (2, 1)] parts) ∧ (∀ (parts : List (Nat × V)), aP prog 287 parts = bM [.nils,.bool false] [(0, 1), (1, 1)] parts) ∧ (∀ (parts : List (Nat × V)), aP prog 30 parts = bM [.nils,.nils,.nils,.nils,.nils,.int .i64 0] [(0, 1), (1, 1), (2, 1), (3, 1), (4, 1), (5, 1)] parts) ∧ (∀ (parts : List (Nat × V)), aP prog 346 parts = bM [.int .i64 0,.int .u64 0] [(0, 1), (1, 1)] parts) ∧ (∀ (parts : List (Nat × V)), aP prog 48 parts = bM [.int .i64 0,.int .i64 0,.int .i64 0] [(0, 1), (1, 1), (2, 1)] parts) ∧ (∀ (parts : List (Nat × V)), aP prog 52 parts = bM [.int .i64 0,.int .i64 0,.int .i64 0] [(0, 1), (1, 1), (2, 1)] parts) ∧ (∀ (parts : List (Nat × V)), aP prog 54 parts = bM [.str [],.int .i64 0,.int .i64 0,.int .i64 0,.int .i64 0] [(0, 1), (1, 3), (4, 1)] parts) ∧ (∀ (parts : List (Nat × V)), aP prog 57 parts = bM [.str [],.int .i64 0] [(0, 1), (1, 1)] parts) ∧ (∀ (parts : List (Nat × V)), aP prog 59 parts = bM [.int .i64 0,.str [],.int .i64 0,.str [],.int .i64 0,.int .i64 0,.int .i64 0,.int .i64 0,.int .i64 0,.int .i64 0,.int .i64 0,.nils,.str [],.int .i64 0,.int .i64 0] [(0, 1), (1, 1), (2, 1), (3, 5), (8, 3), (11, 1), (12, 2), (14, 1)] parts) ∧ (∀ (parts : List (Nat × V)), aP prog 61 parts = bM [.int .i64 0,.int .i64 0,.int .i64 0,.str [],.int .i64 0,.str [],.int .i64 0,.int .i64 0,.int .i64 0,.int .i64 0,.int .i64 0,.int .i64 0,.int .i64 0,.nils,.str [],.int .i64 0,.int .i64 0] [(0, 1), (1, 1), (2, 15)] parts) ∧ (∀ (parts : List (Nat × V)), aP prog 76 parts = bM [.str [],.int .i64 0,.int .i64 0,.int .i64 0] [(0, 1), (1, 1), (2, 1), (3, 1)] parts) ∧ (∀ (parts : List (Nat × V)), aP prog 77 parts = bM [.str [],.int .i64 0,.int .i64 0,.int .i64 0] [(0, 1), (1, 1), (2, 1), (3, 1)] parts) ∧ (∀ (parts : List (Nat × V)), aP prog 82 parts = bM [.int .i64 0,.int .i64 0,.int .i64 0,.nils] [(0, 1), (1, 1), (2, 1), (3, 1)] parts) ∧ (∀ (parts : List (Nat × V)), aP prog 84 parts = bM [.str [],.int .i64 0,.int .i64 0,.int .i64 0,.int .i64 0,.int .i64 0,.int .i64 0,.int .i64 0,.nils,.str [],.int .i64 0,.bool false] [(0, 2), (2, 3), (5, 4), (9, 2), (11, 1)] parts) ∧ (∀ (parts : List (Nat × V)), aP prog 90 parts = bM [.str [],.int .i64 0] [(0, 1), (1, 1)] parts) ∧ (∀ (parts : List (Nat × V)), aP prog 99 parts = bM [.int .i64 0,.int .i64 0,.int .i64 0,.str [],.int .i64 0,.str [],.int .i64 0,.int .i64 0,.int .i64 0,.int .i64 0,.int .i64 0,.int .i64 0,.int .i64 0,.nils,.str [],.int .i64 0,.int .i64 0,.int .i64 0,.int .i64 0,.int .i64 0,.int .i64 0,.int .i64 0,.int .i64 0] [(0, 17), (17, 1), (18, 1), (19, 1), (20, 3)] parts) ∧ (∀ (len : Nat) (parts : List (Nat × V)) (fr : Option Nat) (S : St), aL prog 102 len parts fr S = aQ 23 [.int .i64 0,.int .i64 0,.int .i64 0,.str [],.int .i64 0,.str [],.int .i64 0,.int .i64 0,.int .i64 0,.int .i64 0,.int .i64 0,.int .i64 0,.int .i64 0,.nils,.str [],.int .i64 0,.int .i64 0,.int .i64 0,.int .i64 0,.int .i64 0,.int .i64 0,.int .i64 0,.int .i64 0] len parts fr S) ∧ (∀ (len : Nat) (parts : List (Nat × V)) (fr : Option Nat) (S : St), aL prog 22 len parts fr S = aQ 1 [.int .u8 0] len parts fr S) ∧ (∀ (len : Nat) (parts : List (Nat × V)) (fr : Option Nat) (S : St), aL prog 24 len parts fr S = aQ 5 [.str [],.int .i64 0,.int .i64 0,.int .i64 0,.int .i64 0] len parts fr S) ∧ (∀ (len : Nat) (parts : List (Nat × V)) (fr : Option Nat) (S : St), aL prog 25 len parts fr S = aQ 4 [.str [],.int .i64 0,.int .i64 0,.bool false] len parts fr S) ∧ (∀ (len : Nat) (parts : List (Nat × V)) (fr : Option Nat) (S : St), aL prog 26 len parts fr S = aQ 12 [.str [],.int .i64 0,.int .i64 0,.int .i64 0,.int .i64 0,.int .i64 0,.int .i64 0,.int .i64 0,.nils,.str [],.int .i64 0,.bool false] len parts fr S) ∧ (∀ (len : Nat) (parts : List (Nat × V)) (fr : Option Nat) (S : St), aL prog 27 len parts fr S = aQ 2 [.str [],.int .i64 0] len parts fr S) ∧ (∀ (len : Nat) (parts : List (Nat × V)) (fr : Option Nat) (S : St), aL prog 28 len parts fr S = aQ 5 [.int .i64 0,.int .i64 0,.int .i64 0,.int .i64 0,.int .i64 0] len parts fr S) ∧ (∀ (len : Nat) (parts : List (Nat × V)) (fr : Option Nat) (S : St), aL prog 361 len parts fr S = aQ 1 [.nilp] len parts fr S) ∧ (∀ (len : Nat) (parts : List (Nat × V)) (fr : Option Nat) (S : St), aL prog 364 len parts fr S = aQ 1 [.str []] len parts fr S) ∧ (∀ (len : Nat) (parts : List (Nat × V)) (fr : Option Nat) (S : St), aL prog 44 len parts fr S = aQ 17 [.int .i64 0,.int .i64 0,.int .i64 0,.str [],.int .i64 0,.str [],.int .i64 0,.int .i64 0,.int .i64 0,.int .i64 0,.int .i64 0,.int .i64 0,.int .i64 0,.nils,.str [],.int .i64 0,.int .i64 0] len parts fr S) ∧ (∀ (len : Nat) (parts : List (Nat × V)) (fr : Option Nat) (S : St), aL prog 55 len parts fr S = aQ 4 [.str [],.str [],.int .i64 0,.int .i64 0] len parts fr S) ∧ (∀ (len : Nat) (parts : List (Nat × V)) (fr : Option Nat) (S : St), aL prog 62 len parts fr S = aQ 3 [.int .i64 0,.int .i64 0,.int .i64 0] len parts fr S) ∧ (∀ (len : Nat) (parts : List (Nat × V)) (fr : Option Nat) (S : St), aL prog 68 len parts fr S = aQ 4 [.str [],.int .i64 0,.int .i64 0,.int .i64 0] len parts fr S) ∧ (∀ (len : Nat) (parts : List (Nat × V)) (fr : Option Nat) (S : St), aL prog 71 len parts fr S = aQ 4 [.str [],.int .i64 0,.int .i64 0,.int .i64 0] len parts fr S) ∧ (∀ (len : Nat) (parts : List (Nat × V)) (fr : Option Nat) (S : St), aL prog 80 len parts fr S = aQ 4 [.str [],.int .i64 0,.int .i64 0,.int .i64 0] len parts fr S) ∧ (∀ (len : Nat) (parts : List (Nat × V)) (fr : Option Nat) (S : St), aL prog 96 len parts fr S = aQ 1 [.int .i64 0] len parts fr S) ∧ (∀ (len : Nat) (parts : List (Nat × V)) (fr : Option Nat) (S : St), aL prog 97 len parts fr S = aQ 23 [.int .i64 0,.int .i64 0,.int .i64 0,.str [],.int .i64 0,.str [],.int .i64 0,.int .i64 0,.int .i64 0,.int .i64 0,.int .i64 0,.int .i64 0,.int .i64 0,.nils,.str [],.int .i64 0,.int .i64 0,.int .i64 0,.int .i64 0,.int .i64 0,.int .i64 0,.int .i64 0,.int .i64 0] len parts fr S) ∧ (∀ (j : IntKind) (n : Int) (fr : Option Nat) (S : St), bH prog 229 3 (.int j n) fr S = .ok (.int .i64 (wr .i64 n), S)) ∧ (∀ (j : IntKind) (n : Int) (fr : Option Nat) (S : St), bH prog 229 5 (.int j n) fr S = .ok (.int .u8 (wr .u8 n), S)) ∧ (∀ (j : IntKind) (n : Int) (fr : Option Nat) (S : St), bH prog 3 229 (.int j n) fr S = .ok (.int .u64 (wr .u64 n), S)) ∧ (∀ (j : IntKind) (n : Int) (fr : Option Nat) (S : St), bH prog 3 231 (.int j n) fr S = .ok (.int .u64 (wr .u64 n), S)) ∧ (∀ (j : IntKind) (n : Int) (fr : Option Nat) (S : St), bH prog 5 229 (.int j n) fr S = .ok (.int .u64 (wr .u64 n), S)) ∧ (∀ (p : V), aA prog 126 p 0 = advW 0 p) ∧ (∀ (p : V), aA prog 126 p 1 = advW 1 p) ∧ (∀ (p : V), aA prog 126 p 2 = advW 2 p) ∧ (∀ (p : V), aA prog 126 p 3 = advW 3 p) ∧ (∀ (p : V), aA prog 132 p 0 = advW 0 p) ∧ (∀ (p : V), aA prog 132 p 1 = advW 1 p) ∧ (∀ (p : V), aA prog 132 p 2 = advW 2 p) ∧ (∀ (p : V), aA prog 142 p 0 = advW 0 p) ∧ (∀ (p : V), aA prog 142 p 1 = advW 1 p) ∧ (∀ (p : V), aA prog 142 p 2 = advW 2 p) ∧ (∀ (p : V), aA prog 145 p 0 = advW 0 p) ∧ (∀ (p : V), aA prog 145 p 1 = advW 1 p) ∧ (∀ (p : V), aA prog 145 p 2 = advW 2 p) ∧ (∀ (p : V), aA prog 145 p 3 = advW 3 p) ∧ (∀ (p : V), aA prog 160 p 0 = advW 0 p) ∧ (∀ (p : V), aA prog 201 p 0 = advW 0 p) ∧ (∀ (p : V), aA prog 201 p 1 = advW 1 p) ∧ (∀ (p : V), aA prog 201 p 2 = advW 2 p) ∧ (∀ (p : V), aA prog 201 p 3 = advW 3 p) ∧ (∀ (p : V), aA prog 207 p 0 = advW 0 p) ∧ (∀ (p : V), aA prog 207 p 1 = advW 17 p) ∧ (∀ (p : V), aA prog 207 p 2 = advW 18 p) ∧ (∀ (p : V), aA prog 207 p 3 = advW 19 p) ∧ (∀ (p : V), aA prog 207 p 4 = advW 20 p) ∧ (∀ (p : V), aA prog 220 p 1 = advW 1 p) ∧ (∀ (p : V), aA prog 220 p 2 = advW 2 p) ∧ (∀ (p : V), aA prog 225 p 0 = advW 0 p) ∧ (∀ (p : V), aA prog 225 p 1 = advW 1 p) ∧ (∀ (p : V), aA prog 225 p 2 = advW 2 p) ∧ (∀ (p : V), aA prog 287 p 0 = advW 0 p) ∧ (∀ (p : V), aA prog 287 p 1 = advW 1 p) ∧ (∀ (p : V), aA prog 30 p 0 = advW 0 p) ∧ (∀ (p : V), aA prog 30 p 1 = advW 1 p) ∧ (∀ (p : V), aA prog 30 p 2 = advW 2 p) ∧ (∀ (p : V), aA prog 30 p 3 = advW 3 p) ∧ (∀ (p : V), aA prog 30 p 4 = advW 4 p) ∧ (∀ (p : V), aA prog 30 p 5 = advW 5 p) ∧ (∀ (p : V), aA prog 346 p 0 = advW 0 p) ∧ (∀ (p : V), aA prog 346 p 1 = advW 1 p) ∧ (∀ (p : V), aA prog 48 p 0 = advW 0 p) ∧ (∀ (p : V), aA prog 48 p 1 = advW 1 p) ∧ (∀ (p : V), aA prog 48 p 2 = advW 2 p) ∧ (∀ (p : V), aA prog 52 p 0 = advW 0 p) ∧ (∀ (p : V), aA prog 52 p 1 = advW 1 p) ∧ (∀ (p : V), aA prog 52 p 2 = advW 2 p) ∧ (∀ (p : V), aA prog 54 p 0 = advW 0 p) ∧ (∀ (p : V), aA prog 54 p 1 = advW 1 p) ∧ (∀ (p : V), aA prog 54 p 2 = advW 4 p) ∧ (∀ (p : V), aA prog 57 p 0 = advW 0 p) ∧ (∀ (p : V), aA prog 57 p 1 = advW 1 p) ∧ (∀ (p : V), aA prog 59 p 0 = advW 0 p) ∧ (∀ (p : V), aA prog 59 p 1 = advW 1 p) ∧ (∀ (p : V), aA prog 59 p 2 = advW 2 p) ∧ (∀ (p : V), aA prog 59 p 3 = advW 3 p) ∧ (∀ (p : V), aA prog 59 p 4 = advW 8 p) ∧ (∀ (p : V), aA prog 59 p 5 = advW 11 p) ∧ (∀ (p : V), aA prog 59 p 6 = advW 12 p) ∧ (∀ (p : V), aA prog 59 p 7 = advW 14 p) ∧ (∀ (p : V), aA prog 61 p 0 = advW 0 p) ∧ (∀ (p : V), aA prog 61 p 1 = advW 1 p) ∧ (∀ (p : V), aA prog 61 p 2 = advW 2 p) ∧ (∀ (p : V), aA prog 76 p 0 = advW 0 p) ∧ (∀ (p : V), aA prog 76 p 1 = advW 1 p) ∧ (∀ (p : V), aA prog 76 p 2 = advW 2 p) ∧ (∀ (p : V), aA prog 76 p 3 = advW 3 p) ∧ (∀ (p : V), aA prog 77 p 0 = advW 0 p) ∧ (∀ (p : V), aA prog 77 p 1 = advW 1 p) ∧ (∀ (p : V), aA prog 77 p 2 = advW 2 p) ∧ (∀ (p : V), aA prog 77 p 3 = advW 3 p) ∧ (∀ (p : V), aA prog 82 p 0 = advW 0 p) ∧ (∀ (p : V), aA prog 82 p 1 = advW 1 p) ∧ (∀ (p : V), aA prog 82 p 2 = advW 2 p) ∧ (∀ (p : V), aA prog 82 p 3 = advW 3 p) ∧ (∀ (p : V), aA prog 84 p 0 = advW 0 p) ∧ (∀ (p : V), aA prog 84 p 1 = advW 2 p) ∧ (∀ (p : V), aA prog 84 p 2 = advW 5 p) ∧ (∀ (p : V), aA prog 84 p 3 = advW 9 p) ∧ (∀ (p : V), aA prog 84 p 4 = advW 11 p) ∧ (∀ (p : V), aA prog 90 p 0 = advW 0 p) ∧ (∀ (p : V), aA prog 90 p 1 = advW 1 p) ∧ (∀ (p : V), aA prog 99 p 0 = advW 0 p) ∧ (∀ (p : V), aA prog 99 p 1 = advW 17 p) ∧ (∀ (p : V), aA prog 99 p 2 = advW 18 p) ∧ (∀ (p : V), aA prog 99 p 3 = advW 19 p) ∧ (∀ (p : V), aA prog 99 p 4 = advW 20 p) ∧ (∀ (x i : V), aC prog 102 x i = cU 23 x i) ∧ (∀ (x i : V), aC prog 114 x i = cU 3 x i) ∧ (∀ (x i : V), aC prog 22 x i = cU 1 x i) ∧ (∀ (x i : V), aC prog 24 x i = cU 5 x i) ∧ (∀ (x i : V), aC prog 25 x i = cU 4 x i) ∧ (∀ (x i : V), aC prog 26 x i = cU 12 x i) ∧ (∀ (x i : V), aC prog 27 x i = cU 2 x i) ∧ (∀ (x i : V), aC prog 28 x i = cU 5 x i) ∧ (∀ (x i : V), aC prog 361 x i = cU 1 x i) ∧ (∀ (x i : V), aC prog 364 x i = cU 1 x i) ∧ (∀ (x i : V), aC prog 44 x i = cU 17 x i) ∧ (∀ (x i : V), aC prog 55 x i = cU 4 x i) ∧ (∀ (x i : V), aC prog 62 x i = cU 3 x i) ∧ (∀ (x i : V), aC prog 68 x i = cU 4 x i) ∧ (∀ (x i : V), aC prog 71 x i = cU 4 x i) ∧ (∀ (x i : V), aC prog 80 x i = cU 4 x i) ∧ (∀ (x i : V), aC prog 96 x i = cU 1 x i) ∧ (∀ (x i : V), aC prog 97 x i = cU 23 x i) ∧ (∀ (p : V) (S : St), aB prog 126 p S = bB (some 4) p S) ∧ (∀ (p : V) (S : St), aB prog 132 p S = bB (some 5) p S) ∧ (∀ (p : V) (S : St), aB prog 145 p S = bB (some 4) p S) ∧ (∀ (p : V) (S : St), aB prog 2 p S = bB none p S) ∧ (∀ (p : V) (S : St), aB prog 201 p S = bB (some 4) p S) ∧ (∀ (p : V) (S : St), aB prog 212 p S = bB (some 1) p S) ∧ (∀ (p : V) (S : St), aB prog 22 p S = bB none p S) ∧ (∀ (p : V) (S : St), aB prog 220 p S = bB (some 3) p S) ∧ (∀ (p : V) (S : St), aB prog 229 p S = bB none p S) ∧ (∀ (p : V) (S : St), aB prog 232 p S = bB none p S) ∧ (∀ (p : V) (S : St), aB prog 24 p S = bB none p S) ∧ (∀ (p : V) (S : St), aB prog 25 p S = bB none p S) ∧ (∀ (p : V) (S : St), aB prog 26 p S = bB none p S) ∧ (∀ (p : V) (S : St), aB prog 27 p S = bB none p S) ∧ (∀ (p : V) (S : St), aB prog 28 p S = bB none p S) ∧ (∀ (p : V) (S : St), aB prog 3 p S = bB none p S) ∧ (∀ (p : V) (S : St), aB prog 30 p S = bB (some 6) p S) ∧ (∀ (p : V) (S : St), aB prog 31 p S = bB none p S) ∧ (∀ (p : V) (S : St), aB prog 346 p S = bB (some 2) p S) ∧ (∀ (p : V) (S : St), aB prog 349 p S = bB none p S) ∧ (∀ (p : V) (S : St), aB prog 4 p S = bB none p S) ∧ (∀ (p : V) (S : St), aB prog 48 p S = bB (some 3) p S) ∧ (∀ (p : V) (S : St), aB prog 5 p S = bB none p S) ∧ (∀ (p : V) (S : St), aB prog 52 p S = bB (some 3) p S) ∧ (∀ (p : V) (S : St), aB prog 54 p S = bB (some 5) p S) ∧ (∀ (p : V) (S : St), aB prog 55 p S = bB none p S) ∧ (∀ (p : V) (S : St), aB prog 57 p S = bB (some 2) p S) ∧ (∀ (p : V) (S : St), aB prog 59 p S = bB (some 15) p S) ∧ (∀ (p : V) (S : St), aB prog 61 p S = bB (some 17) p S) ∧ (∀ (p : V) (S : St), aB prog 76 p S = bB (some 4) p S) ∧ (∀ (p : V) (S : St), aB prog 80 p S = bB none p S) ∧ (∀ (p : V) (S : St), aB prog 82 p S = bB (some 4) p S) ∧ (∀ (p : V) (S : St), aB prog 84 p S = bB (some 12) p S) ∧ (∀ (p : V) (S : St), aB prog 9 p S = bB none p S) ∧ (∀ (p : V) (S : St), aB prog 90 p S = bB (some 2) p S) ∧ (∀ (p : V) (S : St), aB prog 99 p S = bB (some 23) p S) ∧ (∀ (x : V) (S : St), bG prog 102 x S = lenW x) ∧ (∀ (x : V) (S : St), bG prog 114 x S = lenW x) ∧ (∀ (x : V) (S : St), bG prog 22 x S = lenW x) ∧ (∀ (x : V) (S : St), bG prog 24 x S = lenW x) ∧ (∀ (x : V) (S : St), bG prog 25 x S = lenW x) ∧ (∀ (x : V) (S : St), bG prog 26 x S = lenW x) ∧ (∀ (x : V) (S : St), bG prog 27 x S = lenW x) ∧ (∀ (x : V) (S : St), bG prog 28 x S = lenW x) ∧ (∀ (x : V) (S : St), bG prog 361 x S = lenW x) ∧ (∀ (x : V) (S : St), bG prog 364 x S = lenW x) ∧ (∀ (x : V) (S : St), bG prog 44 x S = lenW x) ∧ (∀ (x : V) (S : St), bG prog 55 x S = lenW x) ∧ (∀ (x : V) (S : St), bG prog 62 x S = lenW x) ∧ (∀ (x : V) (S : St), bG prog 68 x S = lenW x) ∧ (∀ (x : V) (S : St), bG prog 71 x S = lenW x) ∧ (∀ (x : V) (S : St), bG prog 80 x S = lenW x) ∧ (∀ (s : List UInt8) (S : St), bG prog 9 (.str s) S = .ok (.int .i64 s.length)) ∧ (∀ (x : V) (S : St), bG prog 96 x S = lenW x) ∧ (∀ (x : V) (S : St), bG prog 97 x S = lenW x) ∧ (∀ (a ver off len : Nat) (lo hi : Option V), cK prog 22 (.sl a ver 1 off len) lo hi = (match cJ len lo hi with
      | .ok (l, h) => .ok (.sl a ver 1 (off + l) (h - l))
      | .error e => .error e)) ∧ (∀ (a ver off len : Nat) (lo hi : Option V), cK prog 24 (.sl a ver 5 off len) lo hi = (match cJ len lo hi with
      | .ok (l, h) => .ok (.sl a ver 5 (off + l) (h - l))
      | .error e => .error e)) ∧ (∀ (a ver off len : Nat) (lo hi : Option V), cK prog 25 (.sl a ver 4 off len) lo hi = (match cJ len lo hi with
      | .ok (l, h) => .ok (.sl a ver 4 (off + l) (h - l))
      | .error e => .error e)) ∧ (∀ (a ver off len : Nat) (lo hi : Option V), cK prog 26 (.sl a ver 12 off len) lo hi = (match cJ len lo hi with
      | .ok (l, h) => .ok (.sl a ver 12 (off + l) (h - l))
      | .error e => .error e)) ∧ (∀ (a ver off len : Nat) (lo hi : Option V), cK prog 27 (.sl a ver 2 off len) lo hi = (match cJ len lo hi with
      | .ok (l, h) => .ok (.sl a ver 2 (off + l) (h - l))
      | .error e => .error e)) ∧ (∀ (a ver off len : Nat) (lo hi : Option V), cK prog 28 (.sl a ver 5 off len) lo hi = (match cJ len lo hi with
      | .ok (l, h) => .ok (.sl a ver 5 (off + l) (h - l))
      | .error e => .error e)) ∧ (∀ (a ver off len : Nat) (lo hi : Option V), cK prog 55 (.sl a ver 4 off len) lo hi = (match cJ len lo hi with
      | .ok (l, h) => .ok (.sl a ver 4 (off + l) (h - l))
      | .error e => .error e)) ∧ (∀ (a ver off len : Nat) (lo hi : Option V), cK prog 71 (.sl a ver 4 off len) lo hi = (match cJ len lo hi with
      | .ok (l, h) => .ok (.sl a ver 4 (off + l) (h - l))
      | .error e => .error e)) ∧ (∀ (a ver off len : Nat) (lo hi : Option V), cK prog 80 (.sl a ver 4 off len) lo hi = (match cJ len lo hi with
      | .ok (l, h) => .ok (.sl a ver 4 (off + l) (h - l))
      | .error e => .error e)) ∧ (∀ (a ver off len : Nat) (lo hi : Option V), cK prog 96 (.sl a ver 1 off len) lo hi = (match cJ len lo hi with
      | .ok (l, h) => .ok (.sl a ver 1 (off + l) (h - l))
      | .error e => .error e)) ∧ (∀ (a ver off len : Nat) (lo hi : Option V), cK prog 97 (.sl a ver 23 off len) lo hi = (match cJ len lo hi with
      | .ok (l, h) => .ok (.sl a ver 23 (off + l) (h - l))
      | .error e => .error e)) ∧ (∀ (p x : V) (S : St), aH prog 126 p x S = aV 4 p x S) ∧ (∀ (p x : V) (S : St), aH prog 132 p x S = aV 5 p x S) ∧ (∀ (p x : V) (S : St), aH prog 145 p x S = aV 4 p x S) ∧ (∀ (p x : V) (S : St), aH prog 201 p x S = aV 4 p x S) ∧ (∀ (p x : V) (S : St), aH prog 212 p x S = aV 1 p x S) ∧ (∀ (p x : V) (S : St), aH prog 22 p x S = aV 1 p x S) ∧ (∀ (p x : V) (S : St), aH prog 220 p x S = aV 3 p x S) ∧ (∀ (p x : V) (S : St), aH prog 232 p x S = aV 1 p x S) ∧ (∀ (p x : V) (S : St), aH prog 24 p x S = aV 1 p x S) ∧ (∀ (p x : V) (S : St), aH prog 25 p x S = aV 1 p x S) ∧ (∀ (p x : V) (S : St), aH prog 26 p x S = aV 1 p x S) ∧ (∀ (p x : V) (S : St), aH prog 27 p x S = aV 1 p x S) ∧ (∀ (p x : V) (S : St), aH prog 28 p x S = aV 1 p x S) ∧ (∀ (p x : V) (S : St), aH prog 3 p x S = aV 1 p x S) ∧ (∀ (p x : V) (S : St), aH prog 30 p x S = aV 6 p x S) ∧ (∀ (p x : V) (S : St), aH prog 31 p x S = aV 1 p x S) ∧ (∀ (p x : V) (S : St), aH prog 346 p x S = aV 2 p x S) ∧ (∀ (p x : V) (S : St), aH prog 4 p x S = aV 1 p x S) ∧ (∀ (p x : V) (S : St), aH prog 48 p x S = aV 3 p x S) ∧ (∀ (p x : V) (S : St), aH prog 5 p x S = aV 1 p x S) ∧ (∀ (p x : V) (S : St), aH prog 52 p x S = aV 3 p x S) ∧ (∀ (p x : V) (S : St), aH prog 54 p x S = aV 5 p x S) ∧ (∀ (p x : V) (S : St), aH prog 55 p x S = aV 1 p x S) ∧ (∀ (p x : V) (S : St), aH prog 57 p x S = aV 2 p x S) ∧ (∀ (p x : V) (S : St), aH prog 59 p x S = aV 15 p x S) ∧ (∀ (p x : V) (S : St), aH prog 61 p x S = aV 17 p x S) ∧ (∀ (p x : V) (S : St), aH prog 80 p x S = aV 1 p x S) ∧ (∀ (p x : V) (S : St), aH prog 82 p x S = aV 4 p x S) ∧ (∀ (p x : V) (S : St), aH prog 84 p x S = aV 12 p x S) ∧ (∀ (p x : V) (S : St), aH prog 9 p x S = aV 1 p x S) ∧ (∀ (p x : V) (S : St), aH prog 90 p x S = aV 2 p x S) ∧ (∀ (p x : V) (S : St), aH prog 99 p x S = aV 23 p x S) := ⟨aZi, bC8, bC9, bCa, bCb, bCc, bCd, bCe, bCf, bCg, bCh, bCi, bCj, bCk, bCl, bCm, bCn, bCo, bCp, bCq, bCr, bCs, bCt, bCu, bHl, bCv, bHm, bHn, bHo, bHp, bHq, bHr, bHs, bHt, bHu, bHv, bHw, bHx, bCw, bHy, bHz, bI0, bI1, bI2, bI3, bCx, bCy, bI4, bI5, bI6, bI7, bI8, bI9, bIa, bIb, aW5, aW6, aW7, aW8, aW9, aWa, aWb, aWc, aWd, aWe, aWf, aWg, aWh, aWi, aWj, aWk, aWl, aWm, aWn, aWo, aWp, aWq, aWr, aWs, aWt, aWu, aWv, aWw, aWx, aWy, aWz, aX0, aX1, aX2, aX3, aX4, aZo, aZp, aZq, aZr, aZs, aZt, aX5, aX6, aZu, aZv, aZw, aZx, aZy, aZz, bA0, bA1, bA2, bA3, bA4, bA5, bA6, bA7, bA8, bA9, bAa, bAb, bAc, bAd, bAe, bAf, bAg, bAh, bAi, bAj, bAk, bAl, bAm, bAn, bAo, bAp, bAq, bAr, bAs, bAt, bAu, bAv, bAw, bAx, bAy, bAz, bB0, bB1, bB2, bB3, bDf, bDg, bIo, bIp, bIq, bIr, bIs, bIt, bDh, bDi, bIu, bIv, bIw, bIx, bIy, bIz, bJ0, bJ1, bDj, bDk, bDl, ld2, bDm, bDn, bJ3, bDo, bDp, bDq, bJ4, bJ5, bJ6, bJ7, bJ8, ld3, bJa, bJb, bDr, bDs, ld4, bJc, ld5, bJd, bJe, bJf, bJg, bJh, bJi, bJj, bJk, bJl, bJm, ld9, bJn, bJo, bB4, bB5, bDt, bDu, bDv, bDw, bDx, bDy, bB6, bB7, bDz, bE0, bE1, bE2, bE3, bE4, bJp, bE5, bE6, bJq, bJr, bJs, bJt, bJu, bJv, bJw, bJx, bJy, bJz, bK0, bE9, bEa, bEb, bEc, bEd, bK1, bEe, bEf, bK2, bK3, bK4, bK5, bK6, st3, bK7, bK8, bEg, st4, bK9, st5, bKa, bKb, bKc, bKd, bKe, bKf, bKg, bKh, bKi, st9, bKj, bKk⟩
theorem ls:(∀ {α:Type} (a:α) (l:List α),(a::l)[0]?=some a)∧(∀ {α:Type} (a:α) (l:List α) (i:Nat),(a::l)[i+1]?=l[i]?)∧(∀ {α:Type} (i:Nat),([]:List α)[i]?=none)∧(∀ {α:Type} (a:α) (l:List α),(a::l).length=l.length+1)∧(∀ {α:Type},([]:List α).length=0) ∧
  (∀ {α:Type} (l:List α),l.drop 0=l)∧(∀ {α:Type} (a:α) (l:List α) (i:Nat),(a::l).drop (i+1)=l.drop i)∧(∀ {α:Type} (l:List α),l.take 0=[])∧(∀ {α:Type} (a:α) (l:List α) (i:Nat),(a::l).take (i+1)=a::l.take i)∧(∀ {α:Type} (i:Nat),([]:List α).take i=[])∧(∀ {α:Type} (i:Nat),([]:List α).drop i=[]) ∧
  (∀ {α:Type} (l:List α),[]++l=l)∧(∀ {α:Type} (a:α) (l m:List α),a::l++m=a::(l++m))∧(∀ {α:Type} (a b:α) (l:List α),(a::l).set 0 b=b::l)∧(∀ {α:Type} (a b:α) (l:List α) (i:Nat),(a::l).set (i+1) b=a::l.set i b) ∧
  (∀ b:Bool,(true&&b)=b)∧(∀ b:Bool,(b&&true)=b)∧(∀ b:Bool,(!!b)=b)∧(∀ {p q:Prop},(if true=true then p else q)=p)∧(∀ {p q:Prop},(if false=true then p else q)=q)∧(!true)=false∧(!false)=true∧(∀ {α:Type} (a b:α),(if True then a else b)=a)∧(∀ {α:Type} (a b:α),(if False then a else b)=b)∧(∀ n:Nat,0+n=n)∧(∀ n:Nat,n+0=n)∧(∀ {α:Type} (f:α→List V) (l:List α),(l.map f).length=l.length) ∧
  (∀ (p:Prop) [Decidable p],(decide p=true)=p)∧(∀ (p:Prop) [Decidable p],((!decide p)=true)=¬ p)∧(∀ p:Prop,(p∧True)=p)∧(∀ p:Prop,(True∧p)=p)∧(∀ n:Nat,(n≤n)=True)∧(∀ n:Nat,(0≤n)=True)∧(∀ (a:Nat),(a=a)=True):=
 ⟨fun _ _=>rfl,fun _ _ _=>rfl,fun _=>rfl,fun _ _=>rfl,rfl,fun _=>rfl,fun _ _ _=>rfl,fun _=>rfl,fun _ _ _=>rfl,fun _=>by simp,fun _=>by simp,fun _=>rfl,fun _ _ _=>rfl,fun _ _ _=>rfl,fun _ _ _ _=>rfl,Bool.true_and,Bool.and_true,Bool.not_not,by intros;rfl,by intros;rfl,rfl,rfl,fun _ _=>if_pos trivial,fun _ _=>if_neg id,Nat.zero_add,Nat.add_zero,fun _ _=>List.length_map ..,fun p _=>by simp,fun p _=>by simp,and_true,true_and,fun n=>by simp,fun n=>by simp,fun n=>by simp⟩
theorem gm (n:Nat) (S:St) (a v:Nat):aI ⟨n,S.heap⟩ a v=aI S a v:=rfl
theorem bF8 {l:List Int} {i:Nat} {a:Int} (hi:l[i]?=some a) (k:IntKind):cU 1 (.imm (l.map hU)) (.int k (i:Int))=.ok (.iptr (hU a) 0):=ixI (enc:=hU) hi rfl k
theorem aGg {l:List Rate} {i:Nat} {a:Rate} (hi:l[i]?=some a) (k:IntKind):cU 5 (.imm (l.map Rate.enc)) (.int k (i:Int))=.ok (.iptr a.enc 0):=ixI (enc:=Rate.enc) hi rfl k
theorem zG {l:List Ser} {i:Nat} {a:Ser} (hi:l[i]?=some a) (k:IntKind):cU 4 (.imm (l.map Ser.enc)) (.int k (i:Int))=.ok (.iptr a.enc 0):=ixI (enc:=Ser.enc) hi rfl k
theorem aBu {l:List Sess} {i:Nat} {a:Sess} (hi:l[i]?=some a) (k:IntKind):cU 5 (.imm (l.map Sess.enc)) (.int k (i:Int))=.ok (.iptr a.enc 0):=ixI (enc:=Sess.enc) hi rfl k
theorem aDt {l:List Bal} {i:Nat} {a:Bal} (hi:l[i]?=some a) (k:IntKind):cU 2 (.imm (l.map Bal.enc)) (.int k (i:Int))=.ok (.iptr a.enc 0):=ixI (enc:=Bal.enc) hi rfl k
theorem tW {l:List Part} {i:Nat} {a:Part} (hi:l[i]?=some a) (k:IntKind):cU 4 (.imm (l.map Part.enc)) (.int k (i:Int))=.ok (.iptr a.enc 0):=ixI (enc:=Part.enc) hi rfl k
theorem bBa {l:List Line} {i:Nat} {a:Line} (hi:l[i]?=some a) (k:IntKind):cU 4 (.imm (l.map Line.enc)) (.int k (i:Int))=.ok (.iptr a.enc 0):=ixI (enc:=Line.enc) hi rfl k
theorem dG {α:Type} {l:List α} {i:Nat} {a:α} (h:l[i]?=some a):((i:Int)<(l.length:Int))=True:=by
 have:=(List.getElem?_eq_some_iff.1 h).1
 simp;exact this
theorem mZ {i:Nat} (h:i<1000000000):wr .i64 ((i:Int)+1)=((i+1:Nat):Int):=by rw [eM (by omega) (by omega)];omega
theorem wrm {i:Nat} (h:i+1<1000000000):wr .i64 (((i+1:Nat):Int) - 1)=(i:Int):=by rw [eM (by omega) (by omega)];omega
theorem gt0 (i:Nat):((0:Int)<((i+1:Nat):Int))=True:=by simp
theorem aI6 {n i a:Nat} (h:(List.range n)[i]?=some a):i<n∧a=i:=by
 have hl:i<n:=by simpa using (List.getElem?_eq_some_iff.1 h).1
 rw [List.getElem?_range hl] at h
 exact ⟨hl,(Option.some.inj h).symm⟩
theorem oo : (∀ (S : St) (v : V), bX S v = dP mL (pV (lA S 3) S) v) ∧ (∀ (σ : V → Go.AM.R V) (l : List V), dP mL σ (.tup l) = (match frzVs mL σ l with
      | .ok cs => .ok (.tup cs)
      | .error e => .error e)) ∧ (∀ (σ : V → Go.AM.R V) (l : List V), dP mL σ (.agg l) = (match frzVs mL σ l with
      | .ok cs => .ok (.agg cs)
      | .error e => .error e)) ∧ (∀ σ : V → Go.AM.R V, frzVs mL σ [] = .ok []) ∧ (∀ (σ : V → Go.AM.R V) (v : V) (l : List V), frzVs mL σ (v :: l) = (match dP mL σ v with
      | .ok v => (match frzVs mL σ l with
        | .ok l => .ok (v :: l)
        | .error e => .error e)
      | .error e => .error e)) ∧ (∀ (σ : V → Go.AM.R V) (b : Bool), dP mL σ (.bool b) = .ok (.bool b)) ∧ (∀ (σ : V → Go.AM.R V) (k : IntKind) (n : Int), dP mL σ (.int k n) = .ok (.int k n)) ∧ (∀ (σ : V → Go.AM.R V) (s : List UInt8), dP mL σ (.str s) = .ok (.str s)) ∧
    (∀ (σ : V → Go.AM.R V) (es : List (List V)), dP mL σ (.imm es) = .ok (.imm es)) ∧ (∀ σ : V → Go.AM.R V, dP mL σ .nils = .ok (.imm [])) ∧ (∀ (σ : V → Go.AM.R V) (a b c d e : Nat), dP mL σ (.sl a b c d e) = σ (.sl a b c d e)) :=
  ⟨fun _ _ => rfl, fun σ l => by simp only [dP] <;> rfl, fun σ l => by simp only [dP] <;> rfl, fun _ => rfl, fun σ v l => by simp only [frzVs] <;> rfl, fun _ _ => rfl, fun _ _ _ => rfl, fun _ _ => rfl, fun _ _ => rfl, fun _ => rfl, fun _ _ _ _ _ _ => rfl⟩
theorem unK:(∀ (k:IntKind) (n:Int),jH .neg (.int k n)=.ok (.int k (wr k (0 - n))))∧(∀ n:Int,jH .xor (.int .u64 n)=.ok (.int .u64 (aNs n))):=⟨fun _ _=>rfl,fun _=>rfl⟩
theorem nk:(∀ n:Nat,(0=n+1)=False)∧(∀ n:Nat,(n+1=0)=False)∧(∀ n m:Nat,(n+1=m+1)=(n=m))∧(∀ {α:Type} {a b:α},(a≠b)=¬ a=b)∧(¬ False)=True:=⟨fun n=>by simp,fun n=>by simp,fun n m=>by simp,by intros;rfl,by simp⟩
theorem ex:(∀ (a_0:List UInt8) (a_1:Int) (a_2:Int) (a_3:Bool) (b_0:List UInt8) (b_1:Int) (b_2:Int) (b_3:Bool),mI prog 100 126 (.agg [.str a_0,.int .i64 a_1,.int .i64 a_2,.bool a_3]) (.agg [.str b_0,.int .i64 b_1,.int .i64 b_2,.bool b_3])=.ok ((a_0 == b_0)&&decide (a_1=b_1)&&decide (a_2=b_2)&&(a_3 == b_3)))∧(∀ (a_0:Int) (a_1:Int) (a_2_0:Int) (a_2_1:Int) (a_2_2:Int) (b_0:Int) (b_1:Int) (b_2_0:Int) (b_2_1:Int) (b_2_2:Int),mI prog 100 132 (.agg [.int .i64 a_0,.int .i64 a_1,.int .i64 a_2_0,.int .i64 a_2_1,.int .i64 a_2_2]) (.agg [.int .i64 b_0,.int .i64 b_1,.int .i64 b_2_0,.int .i64 b_2_1,.int .i64 b_2_2])=.ok (decide (a_0=b_0)&&decide (a_1=b_1)&&decide (a_2_0=b_2_0)&&decide (a_2_1=b_2_1)&&decide (a_2_2=b_2_2)))∧(∀ (a_0:List UInt8) (a_1:Int) (a_2:Int) (a_3:Int) (b_0:List UInt8) (b_1:Int) (b_2:Int) (b_3:Int),mI prog 100 145 (.agg [.str a_0,.int .i64 a_1,.int .i64 a_2,.int .i64 a_3]) (.agg [.str b_0,.int .i64 b_1,.int .i64 b_2,.int .i64 b_3])=.ok ((a_0 == b_0)&&decide (a_1=b_1)&&decide (a_2=b_2)&&decide (a_3=b_3)))∧(∀ (a_0:List UInt8) (a_1:List UInt8) (a_2:Int) (a_3:Int) (b_0:List UInt8) (b_1:List UInt8) (b_2:Int) (b_3:Int),mI prog 100 201 (.agg [.str a_0,.str a_1,.int .i64 a_2,.int .i64 a_3]) (.agg [.str b_0,.str b_1,.int .i64 b_2,.int .i64 b_3])=.ok ((a_0 == b_0)&&(a_1 == b_1)&&decide (a_2=b_2)&&decide (a_3=b_3)))∧(∀ (a_0:Int) (a_1:Int) (b_0:Int) (b_1:Int),mI prog 100 346 (.agg [.int .i64 a_0,.int .u64 a_1]) (.agg [.int .i64 b_0,.int .u64 b_1])=.ok (decide (a_0=b_0)&&decide (a_1=b_1)))∧(∀ (a_0:Int) (a_1:Int) (a_2:Int) (b_0:Int) (b_1:Int) (b_2:Int),mI prog 100 48 (.agg [.int .i64 a_0,.int .i64 a_1,.int .i64 a_2]) (.agg [.int .i64 b_0,.int .i64 b_1,.int .i64 b_2])=.ok (decide (a_0=b_0)&&decide (a_1=b_1)&&decide (a_2=b_2)))∧(∀ (a_0:Int) (a_1:Int) (a_2:Int) (b_0:Int) (b_1:Int) (b_2:Int),mI prog 100 52 (.agg [.int .i64 a_0,.int .i64 a_1,.int .i64 a_2]) (.agg [.int .i64 b_0,.int .i64 b_1,.int .i64 b_2])=.ok (decide (a_0=b_0)&&decide (a_1=b_1)&&decide (a_2=b_2)))∧(∀ (a_0:List UInt8) (a_1_0:Int) (a_1_1:Int) (a_1_2:Int) (a_2:Int) (b_0:List UInt8) (b_1_0:Int) (b_1_1:Int) (b_1_2:Int) (b_2:Int),mI prog 100 54 (.agg [.str a_0,.int .i64 a_1_0,.int .i64 a_1_1,.int .i64 a_1_2,.int .i64 a_2]) (.agg [.str b_0,.int .i64 b_1_0,.int .i64 b_1_1,.int .i64 b_1_2,.int .i64 b_2])=.ok ((a_0 == b_0)&&decide (a_1_0=b_1_0)&&decide (a_1_1=b_1_1)&&decide (a_1_2=b_1_2)&&decide (a_2=b_2)))∧(∀ (a_0:List UInt8) (a_1:Int) (b_0:List UInt8) (b_1:Int),mI prog 100 57 (.agg [.str a_0,.int .i64 a_1]) (.agg [.str b_0,.int .i64 b_1])=.ok ((a_0 == b_0)&&decide (a_1=b_1)))∧(∀ (a_0:List UInt8) (a_1:Int) (a_2:Int) (a_3:Int) (b_0:List UInt8) (b_1:Int) (b_2:Int) (b_3:Int),mI prog 100 76 (.agg [.str a_0,.int .i64 a_1,.int .i64 a_2,.int .i64 a_3]) (.agg [.str b_0,.int .i64 b_1,.int .i64 b_2,.int .i64 b_3])=.ok ((a_0 == b_0)&&decide (a_1=b_1)&&decide (a_2=b_2)&&decide (a_3=b_3)))∧(∀ (a_0:List UInt8) (a_1:Int) (b_0:List UInt8) (b_1:Int),mI prog 100 90 (.agg [.str a_0,.int .i64 a_1]) (.agg [.str b_0,.int .i64 b_1])=.ok ((a_0 == b_0)&&decide (a_1=b_1)))∧(∀ a b:List V,aJ prog 126 (.agg a) (.agg b)=true)∧(∀ a b:List V,aJ prog 132 (.agg a) (.agg b)=true)∧(∀ a b:List V,aJ prog 145 (.agg a) (.agg b)=true)∧(∀ a b:List V,aJ prog 201 (.agg a) (.agg b)=true)∧(∀ a b:List V,aJ prog 346 (.agg a) (.agg b)=true)∧(∀ a b:List V,aJ prog 48 (.agg a) (.agg b)=true)∧(∀ a b:List V,aJ prog 52 (.agg a) (.agg b)=true)∧(∀ a b:List V,aJ prog 54 (.agg a) (.agg b)=true)∧(∀ a b:List V,aJ prog 57 (.agg a) (.agg b)=true)∧(∀ a b:List V,aJ prog 76 (.agg a) (.agg b)=true)∧(∀ a b:List V,aJ prog 90 (.agg a) (.agg b)=true):=⟨bCz,bD1,bD3,bD5,bD7,bIc,bIe,bIg,bIi,bIk,bIm,fun a b=>congrFun (congrFun bD0 a) b,fun a b=>congrFun (congrFun bD2 a) b,fun a b=>congrFun (congrFun bD4 a) b,fun a b=>congrFun (congrFun bD6 a) b,fun a b=>congrFun (congrFun bD8 a) b,fun a b=>congrFun (congrFun bId a) b,fun a b=>congrFun (congrFun bIf a) b,fun a b=>congrFun (congrFun bIh a) b,fun a b=>congrFun (congrFun bIj a) b,fun a b=>congrFun (congrFun bIl a) b,fun a b=>congrFun (congrFun bIn a) b⟩
theorem agK (P : Program) : (∀ (t : TypeId) (a b : List V), aF P .eql t (.agg a) (.agg b) = (match mI P 100 t (.agg a) (.agg b) with
      | .ok r => .ok (.bool r)
      | .error e => .error e)) ∧ (∀ (t : TypeId) (a b : List V), aF P .neq t (.agg a) (.agg b) = (match mI P 100 t (.agg a) (.agg b) with
      | .ok r => .ok (.bool (!r))
      | .error e => .error e)) := ⟨fun _ _ _ => rfl, fun _ _ _ => rfl⟩
theorem kk:type_of% ex∧type_of% (agK prog)∧type_of% aY2∧type_of% nk∧type_of% kit∧type_of% (bF6 prog)∧type_of% bF7∧type_of% fx∧type_of% ls:=⟨ex,agK prog,aY2,nk,kit,bF6 prog,bF7,fx,ls⟩
theorem bNs (y:Int) (S:St) (K:KW):C 204 [.int .i64 y] S K=K (.bool (aGb y)) S:=by
 refine (bM8 rfl ?_).eq S K
 simp only [aUm,kk,ne_eq,Int.reduceEq,not_false_eq_true,aGb]
 grind
theorem bBb (y m:Int) (S:St) (K:KW):C 132 [.int .i64 y,.int .i64 m] S K=K (.int .i64 (cS y m)) S:=by
 refine (bL2 rfl ?_).eq S K
 simp only [aT8,kk,bNs,cS]
 grind
theorem zZ (d:Date) (S:St) (K:KW):C 123 [.agg [.int .i64 d.y,.int .i64 d.m,.int .i64 d.d]] S K=K (.bool d.right) S:=by
 refine (bKv rfl ?_).eq S K
 simp only [aSu,kk,bBb,Date.right]
 grind
theorem bFa (y:Int) (S:St) (K:KW):C 131 [.int .i64 y] S K=K (.int .i64 (ahead y)) S:=by
 refine (bL1 rfl ?_).eq S K
 simp only [aT6,kk,ne_eq,Int.reduceEq,not_false_eq_true,ahead]
theorem bNt (d:Date) (S:St) (K:KW):C 200 [.agg [.int .i64 d.y,.int .i64 d.m,.int .i64 d.d]] S K=K (.int .i64 d.days) S:=by
 refine (bM2 rfl ?_).eq S K
 simp only [aUg,kk,zZ,bFa,Date.days]
 by_cases hr:d.right=true
 ·simp only [hr,kk]
  have hm:1≤d.m∧d.m≤12:=by simp only [Date.right,Bool.and_eq_true,decide_eq_true_eq] at hr;omega
  refine aX (List.range (d.m - 1).toNat) (step:=lQ d.y) (fin:=id) (fun i n vs S=>vs=[.int .i64 n,.int .i64 ((i:Int)+1)]∧aI S 0 0=.ok (3,[d.enc])) (fun r=>V.int .i64 (wr .i64 (wr .i64 (r+d.d) - 1))=.int .i64 (wr .i64 (wr .i64 (aR (lQ d.y) id (List.range (d.m - 1).toNat) (ahead d.y)+d.d) - 1))) ?_ ?_ ⟨rfl,by simp only [kk];rfl⟩ rfl
  ·rintro i a n vs S hi ⟨rfl,hg⟩ aO H
   obtain ⟨hil,rfl⟩:=aI6 hi
   simp only [lQ] at H
   simp only [aFs,kk,hg,Date.enc,bBb]
   rw [if_pos (by omega)]
   refine H _ _ ⟨?_,hg⟩
   rw [eM (n:=(a:Int)+1+1) (by omega) (by omega)]
   simp
  ·rintro n vs S ⟨rfl,hg⟩ aO H
   simp only [aFs,kk,hg,Date.enc]
   rw [if_neg (by simp;omega)]
   exact H
 ·have hr:d.right=false:=by simpa using hr
  simp only [hr,kk]
  rfl
theorem aQc (a b:Date) (S:St) (K:KW):C 124 [.agg [.int .i64 a.y,.int .i64 a.m,.int .i64 a.d],.agg [.int .i64 b.y,.int .i64 b.m,.int .i64 b.d]] S K=K (.bool (a.before b)) S:=by
 refine (bKw rfl ?_).eq S K
 simp only [aSw,kk,iQ,zZ,bNt,Date.before]
 cases a.right<;>cases b.right<;>simp
theorem bNu (n:Int) (S:St) (K:KW):C 286 [.int .i64 n] S K=K (.int .u64 (nZ n)) S:=by
 refine (bNn rfl ?_).eq S K
 simp only [aW1,kk,unK,nZ]
 split<;>rfl
theorem bNv (n:Int) (b:Bool) (S:St) (K:KW):C 287 [.int .u64 n,.bool b] S K=K (.tup [.int .i64 (aAh n b).1,.bool (aAh n b).2]) S:=by
 refine (bNp rfl ?_).eq S K
 simp only [aW3,kk,unK,oo,aAh]
 cases b<;>simp
theorem aQd (a b:Int) (S:St) (K:KW):C 203 [.int .i64 a,.int .i64 b] S K=K (gE (cQ a b)) S:=by
 refine (bM6 rfl ?_).eq S K
 simp only [aUk,vO,kk,oo,cQ,gE]
 grind
theorem bBc (a b:Int) (S:St) (K:KW):C 219 [.int .i64 a,.int .i64 b] S K=K (gE (jV a b)) S:=by
 refine (bMe rfl ?_).eq S K
 simp only [aUs,vP,kk,oo,jV,gE]
 grind
theorem bNw:(fun (a b:Bool)=>aF prog .neq 4 (.bool a) (.bool b))=fun a b=>.ok (.bool (!(a == b))):=by kernel_rfl
theorem bNx (a b:Bool):aF prog .neq 4 (.bool a) (.bool b)=.ok (.bool (!(a == b))):=congrFun (congrFun bNw a) b
theorem bNy (a b:Int) (S:St) (K:KW):C 279 [.int .i64 a,.int .i64 b] S K=K (gE (aKg a b)) S:=by
 refine (bNl rfl ?_).eq S K
 simp only [aVz,aGa,kk,bNu,bNv,bNx,oo,gE,aKg]
 by_cases h:0<nZ b
 ·have h0:nZ b≠0:=by omega
  simp only [h,h0,kk,ne_eq,not_false_eq_true]
  grind
 ·simp only [h,kk]
  grind
theorem bNz (n bp:Int) (S:St) (K:KW):C 254 [.int .i64 n,.int .i64 bp,.int .i64 10000] S K=K (gE (cG n bp)) S:=by
 refine (bN5 rfl ?_).eq S K
 simp only [aVj,aG2,aG1,kk,unK,oo,gE,bB9,aBm,ne_eq,Int.reduceEq,not_false_eq_true]
 unfold cG
 simp only [nZ]
 by_cases hn:n<0<;>simp only [hn,kk,if_true,if_false,aBm]
 all_goals
  by_cases hp:wr .u64 bp=0
  ·simp only [hp,kk,aBm]
   grind
  ·simp only [hp,kk,aBm,ne_eq,not_false_eq_true]
   grind
theorem bFb (n bp:Int) (S:St) (K:KW):C 217 [.int .i64 n,.int .i64 bp] S K=K (gE (cG n bp)) S:=by
 refine (bMa rfl ?_).eq S K
 simp only [aUo,kk,bNz,gE,oo]
theorem bBd:(fun (a b c:Int)=>lF Tryz.f255 [.int .u64 a,.int .u64 b,.int .u64 c])=fun a b c=>
  bif decide (0≤a)&&decide (0≤b)&&decide (0≤c)&&decide (c≤1) then .ok (.tup [.int .u64 ((a+b+c) % 18446744073709551616),.int .u64 ((a+b+c) / 18446744073709551616)]) else .error "Add64":=by kernel_rfl
theorem aLw {a b c:Int} (ha:0≤a) (hb:0≤b) (hc:0≤c) (hc1:c≤1):lF Tryz.f255 [.int .u64 a,.int .u64 b,.int .u64 c]=.ok (.tup [.int .u64 ((a+b+c) % 18446744073709551616),.int .u64 ((a+b+c) / 18446744073709551616)]):=by
 refine (congrFun (congrFun (congrFun bBd a) b) c).trans ?_
 simp only [ha,hb,hc,hc1,decide_true,Bool.and_self,cond_true]
theorem aNz (P:Program) (t:TypeId) (a:Int):aF P .shr t (.int .u64 a) (.int .u64 63)=.ok (.int .u64 (a.fdiv (2 ^ 63))):=rfl
theorem bO0 (l:List Int) (hb:l.length<1000000) (S:St) (K:KW):C 218 [.imm (l.map hU)] S K=K (.tup [.int .i64 (hY l).1,.bool (hY l).2]) S:=by
 refine (bMc rfl ?_).eq S K
 simp only [aUq,kk]
 refine aX l (step:=rW) (fin:=qS) (fun i st vs S=>vs=[.int .u64 st.1,.int .u64 st.2,.int .i64 (i:Int)]∧0≤st.1∧st.1<18446744073709551616∧0≤st.2∧st.2<18446744073709551616) (fun r=>V.tup [.int .i64 r.1,.bool r.2]=.tup [.int .i64 (hY l).1,.bool (hY l).2])
  ?_ ?_ (s:=(0,0)) ⟨rfl,by decide,by decide,by decide,by decide⟩ rfl
 ·rintro i n ⟨h,lo⟩ vs S hi ⟨rfl,r1,r2,r3,r4⟩ aO H
  have hr:=aNv n
  have hil:=(List.getElem?_eq_some_iff.1 hi).1
  simp only at r1 r2 r3 r4
  have hc1:(lo+wr .u64 n+0) / 18446744073709551616≤1:=by omega
  have hc0:0≤(lo+wr .u64 n+0) / 18446744073709551616:=by omega
  have hI:=H [.int .u64 ((h+(if n<0 then 18446744073709551615 else 0)+(lo+wr .u64 n+0) / 18446744073709551616) % 18446744073709551616),.int .u64 ((lo+wr .u64 n+0) % 18446744073709551616),.int .i64 ((i+1:Nat):Int)] S ⟨rfl,by simp only;omega,by simp only;omega,by simp only;omega,by simp only;omega⟩
  simp only [aFu,aFt,kk,dG hi,bF8 hi,hU,unK,bF2]
  by_cases hn:n<0
  ·simp only [hn,kk,if_true,aLw (c:=0) r3 hr.1 (by decide) (by decide),aLw r1 (show (0:Int)≤18446744073709551615 by decide) hc0 hc1,mZ (show i<1000000000 by omega)] at hI ⊢
   exact hI
  ·simp only [hn,kk,if_false,aLw (c:=0) r3 hr.1 (by decide) (by decide),aLw r1 (show (0:Int)≤0 by decide) hc0 hc1,mZ (show i<1000000000 by omega)] at hI ⊢
   exact hI
 ·rintro ⟨h,lo⟩ vs S ⟨rfl,r1,r2,r3,r4⟩ aO H
  simp only [aFu,kk,Int.lt_irrefl,aNz,qS,oo] at H ⊢
  by_cases c:lo.fdiv (2 ^ 63)=0<;>simp only [c,kk,if_true,if_false] at H ⊢<;>exact H
theorem bO1 (r:Int) (S:St) (K:KW):C 225 [.int .i32 r] S K=K (.bool (vR r)) S:=by
 refine (bMi rfl ?_).eq S K
 simp only [aUw,aAe,aFw,kk,vR]
 grind
theorem aXc (s:List UInt8) (a pos:Nat) (S:St) (hg:S.heap.get a=some (.iter s pos)) (hl:pos<s.length):
  qL (.ptr a 0 0 0) S=.ok (.tup [.bool true,.int .i64 pos,.int .i32 (Utf8.decode ⟨⟨s⟩⟩ pos).1],⟨S.next,S.heap.put a (.iter s (pos+(Utf8.decode ⟨⟨s⟩⟩ pos).2))⟩):=by
 have hb:Nat.blt pos s.length=true:=Nat.ble_eq_true_of_le hl
 have hs:s[pos]?=some s[pos]:=List.getElem?_eq_getElem hl
 simp only [qL,hg,hb,hs]
 split
 ·rename_i h
  rw [Go.AM.decode_ascii hs (by simpa using h)]
 ·rfl
theorem aI7 (s:List UInt8) (a pos:Nat) (S:St) (hg:S.heap.get a=some (.iter s pos)) (hl:s.length≤pos):qL (.ptr a 0 0 0) S=.ok (.tup [.bool false],S):=by
 have hb:Nat.blt pos s.length=false:=by
  cases h:Nat.blt pos s.length with
  | false=>rfl
  | true=>exact absurd (Nat.le_of_ble_eq_true h) (by omega)
 simp only [qL,hg,hb]
def IterAt (s:List UInt8) (i:Nat) (S:St):Prop:=∃ pos f,S.heap.get 0=some (.iter s pos)∧(mV s s.length 0).drop i=mV s f pos∧s.length≤f+pos
theorem IterAt.next {s:List UInt8} {i:Nat} {S:St} (h:IterAt s i S) {q r:Nat} (hi:(mV s s.length 0)[i]?=some (q,r)):∃ S',qL (.ptr 0 0 0 0) S=.ok (.tup [.bool true,.int .i64 q,.int .i32 r],S')∧IterAt s (i+1) S':=by
 obtain ⟨pos,f,hg,hd,hf⟩:=h
 have hd0:=congrArg (·[0]?) hd
 simp only [List.getElem?_drop,Nat.add_zero,hi] at hd0
 cases f with
 | zero=>simp [mV] at hd0
 | succ f=>
  have hl:pos<s.length:=by
   by_cases hl:pos<s.length
   ·exact hl
   ·simp [mV,hl] at hd0
  have hd2:mV s (f+1) pos=(pos,(Utf8.decode ⟨⟨s⟩⟩ pos).1)::mV s f (pos+(Utf8.decode ⟨⟨s⟩⟩ pos).2):=by simp only [mV,hl,if_true]
  rw [hd2] at hd0 hd
  simp only [List.getElem?_cons_zero,Option.some.injEq,Prod.mk.injEq] at hd0
  obtain ⟨rfl,rfl⟩:=hd0
  have hw:=aHz ⟨⟨s⟩⟩ q
  exact ⟨_,aXc s 0 q S hg hl,_,f,Tr.get_put_sameB _ _ _ trivial,by rw [←List.drop_drop,hd];rfl,by omega⟩
theorem IterAt.last {s:List UInt8} {S:St} (h:IterAt s (mV s s.length 0).length S):qL (.ptr 0 0 0 0) S=.ok (.tup [.bool false],S):=by
 obtain ⟨pos,f,hg,hd,hf⟩:=h
 rw [List.drop_length] at hd
 cases f with
 | zero=>exact aI7 s 0 pos S hg (by omega)
 | succ f=>
  by_cases hl:pos<s.length
  ·simp [mV,hl] at hd
  ·exact aI7 s 0 pos S hg (by omega)
theorem aI8 (s:List UInt8):xF (.str s) none ⟨0,.nil⟩=.ok (.ptr 0 0 0 0,⟨1,Tr.nil.put 0 (.iter s 0)⟩)∧IterAt s 0 ⟨1,Tr.nil.put 0 (.iter s 0)⟩:=⟨rfl,0,s.length,Tr.get_put_sameB _ _ _ trivial,rfl,by omega⟩
theorem aQe (s:List UInt8) (S:St) (K:KW):C 165 [.str s] S K=K (.bool (eN s)) S:=by
 refine (bL7 rfl ?_).eq S K
 simp only [aTk,kk,(aI8 s).1,eN]
 by_cases h1:s.length<1
 ·rw [if_pos (by omega)];simp [h1]
 by_cases h2:24<s.length
 ·rw [if_neg (by omega),if_pos (by omega)];simp [h1,h2]
 rw [if_neg (by omega),if_neg (by omega)]
 simp only [h1,h2,kk]
 refine aX (mV s s.length 0) (step:=vS) (fin:=fun _=>true) (fun i _ vs S=>vs=[.bool false]∧IterAt s i S) (fun r=>V.bool r=.bool (aR vS (fun _=>true) (mV s s.length 0) ())) ?_ ?_ (s:=()) ⟨rfl,(aI8 s).2⟩ rfl
 ·rintro i ⟨q,r⟩ _ vs S hi ⟨rfl,hI⟩ aO H
  obtain ⟨S',e,hI'⟩:=hI.next hi
  simp only [aFh,kk,e,bO1]
  simp only [vS] at H
  have H1:=fun h:vR (r:Int)=true=>(by simpa only [h,if_true] using H:∀ vs' S',vs'=[.bool false]∧IterAt s (i+1) S'→aO vs' S') [.bool false] S' ⟨rfl,hI'⟩
  by_cases c1:vR (r:Int)=true
  ·simp only [c1,if_true];exact H1 c1
  ·simp only [c1,if_false] at H ⊢
   by_cases c2:q=0
   ·subst c2;simp at H ⊢;exact H
   ·have c2':¬ (q:Int)=0:=by omega
    simp only [c2,c2',if_false] at H ⊢
    by_cases c3:(48≤r∧r≤57)∨r=45∨r=95∨r=46
    ·simp only [c3,if_true] at H
     have h0:=H [.bool false] S' ⟨rfl,hI'⟩
     grind
    ·simp only [c3,if_false] at H
     grind
 ·rintro _ vs S ⟨rfl,hI⟩ aO H
  simp only [aFh,kk,hI.last]
  exact H
theorem bFc (r:Rate) (S:St) (K:KW):C 163 [.agg [.str r.cat,.int .i64 r.day.y,.int .i64 r.day.m,.int .i64 r.day.d,.int .i64 r.bp]] S K=K (.int .i64 (tQ r)) S:=by
 refine (bL5 rfl ?_).eq S K
 simp only [aTg,kk,aQe,zZ,tQ]
 cases eN r.cat<;>cases r.day.right<;>simp
 grind
theorem bFd (a b:Rate) (S:St) (K:KW):C 164 [.agg [.str a.cat,.int .i64 a.day.y,.int .i64 a.day.m,.int .i64 a.day.d,.int .i64 a.bp],.agg [.str b.cat,.int .i64 b.day.y,.int .i64 b.day.m,.int .i64 b.day.d,.int .i64 b.bp]] S K=K (.bool (fP a b)) S:=by
 refine (bL6 rfl ?_).eq S K
 simp only [aTi,kk,aQc,iQ,fP]
 cases fY a.cat b.cat<;>cases (a.cat == b.cat)<;>simp
theorem g85 (l:List Rate) (S:St) (K:KW):C 85 [.imm (l.map Rate.enc)] S K=K (.bool (fZ l)) S:=by
 refine (v85 rfl ?_).eq S K
 simp only [m85,kk,fZ]
 by_cases h:24<l.length
 ·rw [if_pos (by omega),if_pos h]
 have h':¬ (24:Int)<(l.length:Int):=by omega
 simp only [h,h',kk]
 refine aX l (step:=iN) (fin:=fun _=>true) (fun i s vs S=>s=gA l i∧vs=[.bool false,.int .i64 (i:Int)]) (fun r=>V.bool r=.bool (aR iN (fun _=>true) l none)) ?_ ?_ ⟨rfl,rfl⟩ rfl
 ·rintro i r s vs S hi ⟨rfl,rfl⟩ aO H
  have hil:=(List.getElem?_eq_some_iff.1 hi).1
  have hn:gA l (i+1)=some r:=by simpa [gA] using hi
  simp only [hn] at H
  simp only [aK7,kk,dG hi,aGg hi,Rate.enc,bFc,mZ (show i<1000000000 by omega),iN] at H ⊢
  by_cases c:tQ r=0
  ·simp only [c,kk,ne_eq,not_true_eq_false] at H ⊢
   cases i with
   | zero=>simp [gA] at H ⊢;exact H _ _ rfl
   | succ j=>
    have hj:l[j]?=some l[j]:=List.getElem?_eq_getElem (by omega)
    have hp:gA l (j+1)=some l[j]:=by simp [gA,hj]
    simp only [hp,gt0,kk,wrm (show j+1<1000000000 by omega),aGg hj,Rate.enc,bFd] at H ⊢
    cases ha:fP l[j] r<;>simp [ha] at H ⊢<;>first | exact H | exact H _ _ rfl
  ·simp [c] at H ⊢
   exact H
 ·rintro s vs S ⟨rfl,rfl⟩ aO H
  simp only [aK7,kk,Int.lt_irrefl]
  exact H
end Go.Proofs.YtoaibmbldmckaaaGreat
end
section
namespace Go.AM
theorem rY (P:Program) (C:aD) (g:FuncId) (a b args:List V) (S:St) (K:KW) (h:gU P g=some none):aF0 P C (.func g a b) args S K=C g (a++args++b) S K:=by simp only [aF0,aEz,h];rfl
theorem Own.frz {S0 S:St} {n:Nat} {v:V} {es:List (List V)} (h:Own S0 S n v es) (hc:es.all cloVs=true):dP mL (pV (lA S 3) S) v=.ok (.imm es):=by
 rcases h.is with ⟨rfl,rfl⟩ | ⟨a,ver,tl,rfl,_,_,q⟩
 ·rfl
 ·have he:bV S (.sl a ver n 0 es.length)=.ok es:=h.sl.elems
  simp only [dP,pV,he,(nX (S:=S) (n:=2) hc).1]
theorem Own.ptrs {S0 S:St} {n:Nat} {v:V} {es:List (List V)} (h:Own S0 S n v es):qB v=[]:=by
 rcases h.is with ⟨rfl,rfl⟩ | ⟨a,ver,tl,rfl,_,_,q⟩<;>rfl
theorem dU {α:Type} {enc:α→List V} (h:∀ x,cloVs (enc x)=true) (l:List α):(l.map enc).all cloVs=true:=by
 rw [List.all_eq_true]
 intro y hy
 obtain ⟨x,_,rfl⟩:=List.mem_map.1 hy
 exact h x
theorem Sl.imm {n:Nat} {es:List (List V)} (S:St) (h:∀ cs,cs∈es→cs.length=n∧aN cs=true):Sl S n (.imm es) es:=⟨.inr (.inl rfl),h⟩
abbrev E0:St:=⟨0,.nil⟩
theorem pS:WF E0:=fun a b h=>by cases h
theorem aQf {α:Type} {enc:α→List V} {n b:Nat} (hl:∀ x,(enc x).length=n∧aN (enc x)=true) (l:List α) {S:St} (w:WF S) (h1:l.length*b≤35184372088832) (h2:l.length<fK):
  ∃ v S',dK n b .nils (.imm (l.map enc)) none S=.ok (v,S')∧Ext S S'∧Own E0 S' n v (l.map enc):=by
 obtain ⟨v,S',q1,q2,q3⟩:=(Sl.imm (n:=n) (es:=l.map enc) S (fun cs hc=>by obtain ⟨x,_,rfl⟩:=List.mem_map.1 hc;exact hl x)).copy (b:=b) w (by rw [List.length_map];exact h1) (by rw [List.length_map];exact h2)
 exact ⟨v,S',q1,q2,q3.weaken (Nat.zero_le _)⟩
theorem aLx {α:Type} {enc:α→List V} {n b:Nat} (hl:∀ x,(enc x).length=n∧aN (enc x)=true) (l:List α) {S:St} (w:WF S) (h1:l.length*b≤35184372088832) (h2:l.length<fK):
  ∃ v S',dK n b .nils (.imm (l.map enc)) none S=.ok (v,S')∧Ext S S'∧Own S S' n v (l.map enc):=
 (Sl.imm (n:=n) (es:=l.map enc) S (fun cs hc=>by obtain ⟨x,_,rfl⟩:=List.mem_map.1 hc;exact hl x)).copy (b:=b) w (by rw [List.length_map];exact h1) (by rw [List.length_map];exact h2)
theorem aCv {S:St} (w:WF S):Ext E0 S:=⟨fun a b h=>(by cases h),Nat.zero_le _,fun _=>w⟩
theorem Pt.fn {l:V} {f:FuncId} (hl:xK l=true):Pt fun a=>[l,.func f [] [.ptr a 0 0 0]]:=Pt.next hl (Pt.func rfl)
end Go.AM
namespace Go.Proofs.YtoaibmbldmckaaaGreat
open Go.AM Tryz
set_option linter.unusedVariables false
set_option linter.unusedSimpArgs false
set_option maxRecDepth 100000
theorem bO2 (fk:Nat) (ht:gU prog fk=some none) {n:Nat} {cap:List V} (hcap:cloVs cap=true) (p:Sess→Bool) (hf:∀ s:Sess,Fr fk (fun a=>[.agg s.enc,.ptr a 0 0 0]) n cap (.bool (p s)) cap) (l:List Sess) (hb:l.length<1000000):
  Fr 231 (fun a=>[.imm (l.map Sess.enc),.func fk [] [.ptr a 0 0 0]]) n cap (.int .i64 (ixM p l)) cap:=by
 refine FnR.of bEr (lv:=bE 231) (Pt.fn rfl) (by simp [hcap]) ?_ rfl (by simp [hcap])
 rw [bMq]
 simp only [aZf,kk]
 refine aX l (step:=eW p) (fin:=fun _=>-1) (fun i k vs S=>k=i∧vs=[.int .i64 0,.int .i64 (i:Int)]∧S.heap.get 0=some (.row 0 n [cap])) (fun r=>r=ixM p l) ?_ ?_ ⟨rfl,rfl,Tr.get_put_sameB _ _ _ trivial⟩ rfl
 ·rintro i s k vs S hi ⟨rfl,rfl,hg⟩ aO H
  have hil:=(List.getElem?_eq_some_iff.1 hi).1
  have he:=(hf s).eq_same hg
  simp only [Sess.enc] at he
  simp only [aFz,kk,dG hi,aBu hi,Sess.enc,rY _ _ _ _ _ _ _ _ ht,List.nil_append,List.cons_append,he,mZ (show k<1000000000 by omega)]
  simp only [eW] at H
  cases hp:p s<;>simp only [hp,kk] at H ⊢
  ·exact H _ _ ⟨rfl,rfl,hg⟩
  ·exact ⟨by rw [H],hg⟩
 ·rintro k vs S ⟨rfl,rfl,hg⟩ aO H
  simp only [aFz,kk,Int.lt_irrefl]
  exact ⟨by rw [H],hg⟩
theorem bFe (fk:Nat) (ht:gU prog fk=some none) {n:Nat} {cap:List V} (hcap:cloVs cap=true) (p:Ser→Bool) (hf:∀ s:Ser,Fr fk (fun a=>[.agg s.enc,.ptr a 0 0 0]) n cap (.bool (p s)) cap) (l:List Ser) (hb:l.length<1000000):
  Fr 152 (fun a=>[.imm (l.map Ser.enc),.func fk [] [.ptr a 0 0 0]]) n cap (.int .i64 (ixM p l)) cap:=by
 refine FnR.of bEj (lv:=bE 152) (Pt.fn rfl) (by simp [hcap]) ?_ rfl (by simp [hcap])
 rw [t152]
 simp only [aZb,kk]
 refine aX l (step:=eW p) (fin:=fun _=>-1) (fun i k vs S=>k=i∧vs=[.int .i64 0,.int .i64 (i:Int)]∧S.heap.get 0=some (.row 0 n [cap])) (fun r=>r=ixM p l) ?_ ?_ ⟨rfl,rfl,Tr.get_put_sameB _ _ _ trivial⟩ rfl
 ·rintro i s k vs S hi ⟨rfl,rfl,hg⟩ aO H
  have hil:=(List.getElem?_eq_some_iff.1 hi).1
  have he:=(hf s).eq_same hg
  simp only [Ser.enc] at he
  simp only [aFc,kk,dG hi,zG hi,Ser.enc,rY _ _ _ _ _ _ _ _ ht,List.nil_append,List.cons_append,he,mZ (show k<1000000000 by omega)]
  simp only [eW] at H
  cases hp:p s<;>simp only [hp,kk] at H ⊢
  ·exact H _ _ ⟨rfl,rfl,hg⟩
  ·exact ⟨by rw [H],hg⟩
 ·rintro k vs S ⟨rfl,rfl,hg⟩ aO H
  simp only [aFc,kk,Int.lt_irrefl]
  exact ⟨by rw [H],hg⟩
theorem bFf:gU prog 232=some none:=by kernel_rfl
theorem bO3 (id:Int) (s:Sess):Fr 232 (fun a=>[.agg s.enc,.ptr a 0 0 0]) 1 [.int .i64 id] (.bool (decide (s.id=id))) [.int .i64 id]:=by
 refine FnR.of bEs (lv:=bE 232) (Pt.next rfl (Pt.head rfl)) rfl ?_ rfl rfl
 rw [bMr]
 simp only [aZg,kk,Sess.enc,iQ]
 rfl
theorem bFg (l:List Sess) (id:Int) (hb:l.length<1000000):Fv 174 [.imm (l.map Sess.enc),.int .i64 id] (.int .i64 (gQ l id)):=by
 refine bLg rfl ?_
 have h:=(bO2 232 bFf rfl _ (bO3 id) l hb).eq_same (S:=⟨1,Tr.nil.put 0 (.row 0 1 [[.int .i64 id]])⟩) (a:=0) (Tr.get_put_sameB _ _ _ trivial)
 simp only [aTx,kk,h,gQ]
theorem bBe (l:List Sess) (id:Int) (hb:l.length<1000000) (S:St) (K:KW):C 174 [.imm (l.map Sess.enc),.int .i64 id] S K=K (.int .i64 (gQ l id)) S:=(bFg l id hb).eq S K
theorem aXd (l:List Sess) (S:St) (K:KW):C 166 [.imm (l.map Sess.enc)] S K=K (.bool (gF l)) S:=by
 refine (bL8 rfl ?_).eq S K
 simp only [aTm,kk,gF]
 by_cases h:8<l.length
 ·rw [if_pos (by omega),if_pos h]
 have h':¬ (8:Int)<(l.length:Int):=by omega
 simp only [h,h',kk]
 refine aX l (step:=iZ) (fin:=fun _=>true) (fun i s vs S=>vs=[.bool false,.int .i64 s,.int .i64 (i:Int)]) (fun r=>V.bool r=.bool (aR iZ (fun _=>true) l 0)) ?_ ?_ rfl rfl
 ·rintro i s last vs S hi rfl aO H
  have hil:=(List.getElem?_eq_some_iff.1 hi).1
  have hn:((s.reply=Rep.zero):Prop)=((s.reply.why=0∧s.reply.number=0)∧s.reply.gross=0):=by
   obtain ⟨_,_,⟨_,_,_⟩⟩:=s;simp [Rep.zero,and_assoc]
  simp only [iZ,hn,kk] at H
  simp only [aFi,kk,dG hi,aBu hi,Sess.enc,mZ (show i<1000000000 by omega)]
  grind
 ·rintro s vs S rfl aO H
  simp only [aFi,kk,Int.lt_irrefl]
  exact H
end Go.Proofs.YtoaibmbldmckaaaGreat
end
section
namespace Go.AM
theorem bsl (n:Nat) (z:List V) (parts:List (Nat×V)) (fr:Option Nat) (S:St) (hn:n≤1000):aQ n z 1 parts fr S=(match sE n [z] parts with
  | .error e=>.error e
  | .ok elems=>match aK fr S (.row 0 n elems) with
   | .error e=>.error e
   | .ok (a,S')=>.ok (.sl a 0 n 0 1,S')):=by
 unfold aQ
 rw [if_pos (by omega)]
 rfl
theorem bO4 (z:List V) (parts:List (Nat×V)) (fr:Option Nat) (S:St):type_of% (bsl 1 z parts fr S (by decide)):=bsl 1 z parts fr S (by decide)
theorem bFh (z:List V) (parts:List (Nat×V)) (fr:Option Nat) (S:St):type_of% (bsl 2 z parts fr S (by decide)):=bsl 2 z parts fr S (by decide)
theorem aQg (z:List V) (parts:List (Nat×V)) (fr:Option Nat) (S:St):type_of% (bsl 4 z parts fr S (by decide)):=bsl 4 z parts fr S (by decide)
theorem bFi (z:List V) (parts:List (Nat×V)) (fr:Option Nat) (S:St):type_of% (bsl 5 z parts fr S (by decide)):=bsl 5 z parts fr S (by decide)
theorem aY3 (z:List V) (parts:List (Nat×V)) (fr:Option Nat) (S:St):type_of% (bsl 12 z parts fr S (by decide)):=bsl 12 z parts fr S (by decide)
theorem kX {n m k:Nat} {h:Tr Blk} {b:Blk} (w:WF ⟨n,h⟩) (h1:k<m) (h2:n≤m):WF ⟨m,h.put k b⟩:=by
 intro a c hc
 have hc':(h.put k b).get a=some c:=hc
 rw [Tr.get_putB _ _ _ _ trivial] at hc'
 split at hc'
 ·show a<m;omega
 ·have:=w a c hc';show a<m;have:a<n:=this;omega
theorem WF.bump {S:St} (w:WF S) (c:Nat):WF ⟨S.next+c,S.heap⟩:=fun a b h=>Nat.lt_of_lt_of_le (w a b h) (Nat.le_add_right _ _)
theorem wI {S:St} {a ver n:Nat} {el:List (List V)} (h:aI S a ver=.ok (n,el)):S.heap.get a=some (.row ver n el):=by
 unfold aI at h
 split at h
 ·rename_i v es els he
  rw [cond_eq_ite] at h
  split at h
  ·rename_i hv
   have:=Nat.eq_of_beq_eq_true hv
   cases h
   rw [he,this]
  ·cases h
 ·cases h
theorem bI {S S':St} {a ver n:Nat} {el:List (List V)} (hg:aI S a ver=.ok (n,el)) (h:S'.heap.get a=S.heap.get a):aI S' a ver=.ok (n,el):=by
 rw [←hg];unfold aI;rw [h]
theorem aY4 {P:Program} {T:TypeId} {n b:Nat} (hT:apT P T=some (n,b)) (hn:1<n) {S:St} {v:V} {es:List (List V)} (h:Own E0 S n v es) (w:WF S) {c:List V} (hc:c.length=n∧aN c=true) (h1:(es.length+1)*b≤35184372088832) (h2:es.length+1<fK) {i:Nat} (hi:i≤es.length):
  ∃ v' S',gD P T v (.int .i64 (i:Int)) (.sl S.next 0 n 0 1) ⟨S.next+1,S.heap.put S.next (.row 0 n [c])⟩=.ok (v',S')∧WF S'∧Own E0 S' n v' (es.take i++c::es.drop i)∧∀ y,y<S.next→(∀ a ver m,v=.sl a ver n 0 m→y≠a)→S'.heap.get y=S.heap.get y:=by
 have x:Ext S ⟨S.next+1,S.heap.put S.next (.row 0 n [c])⟩:=Ext.new w _
 obtain ⟨v',S',q1,q2,q3,q4⟩:=(h.ext x).insertK hT hn (aCv (x.wf w)) pS (bx:=S.next) (c:=c) (aS _ _ _ _ _ _) (fun a ver m hv=>by
  rcases h.is with ⟨rfl,_⟩ | ⟨a',ver',tl,rfl,_,hlt,_⟩
  ·cases hv
  ·cases hv;omega) hc h1 h2 hi
 refine ⟨v',S',q1,q2.wf pS,q3,fun y hy hya=>?_⟩
 rw [q4 y (by show y<S.next+1;omega) hya]
 exact Tr.get_put_neB _ _ _ _ trivial (by omega)
theorem bFj {P:Program} {T:TypeId} {n b:Nat} (hT:apT P T=some (n,b)) (hn:1<n) {S:St} {v:V} {es:List (List V)} (h:Own E0 S n v es) (w:WF S) {c:List V} (hc:c.length=n∧aN c=true) (h1:(es.length+1)*b≤35184372088832) (h2:es.length+1<fK) {i:Nat} (hi:i≤es.length):
  ∃ v' S',gD P T v (.int .i64 (i:Int)) (.sl S.next 0 n 0 1) ⟨S.next+1,S.heap.put S.next (.row 0 n [c])⟩=.ok (v',S')∧WF S'∧Own E0 S' n v' (es.take i++c::es.drop i):=by
 obtain ⟨v',S',q1,q2,q3,_⟩:=aY4 hT hn h w hc h1 h2 hi
 exact ⟨v',S',q1,q2,q3⟩
end Go.AM
namespace Go.Proofs.YtoaibmbldmckaaaGreat
open Go.AM Tryz
set_option linter.unusedVariables false
set_option linter.unusedSimpArgs false
set_option maxRecDepth 100000
theorem aO0 {f:FuncId} {T:TypeId} (hpl:uN f=some (.spec ((Sp.ins T).run prog))) {s i x v:V} {S S':St} (h:gD prog T s i x S=.ok (v,S')) (K:KW):C f [s,i,x] S K=K v S':=aPo hpl (args:=[s,i,x]) (show (Sp.ins T).run prog [s,i,x] S=.ok (v,S') from h) K
theorem bO5 {f:FuncId} {T:TypeId} (hpl:uN f=some (.spec ((Sp.del T).run prog))) {s i x v:V} {S S':St} (h:oR prog T s i x S=.ok (v,S')) (K:KW):C f [s,i,x] S K=K v S':=aPo hpl (args:=[s,i,x]) (show (Sp.del T).run prog [s,i,x] S=.ok (v,S') from h) K
theorem bO6:apT prog 28=some (5,40):=by kernel_rfl
theorem bO7:apT prog 25=some (4,40):=by kernel_rfl
theorem bFk:uN 230=some (.spec ((Sp.ins 28).run prog)):=by kernel_rfl
theorem bFl:uN 234=some (.spec ((Sp.ins 25).run prog)):=by kernel_rfl
theorem bFm:uN 240=some (.spec ((Sp.del 28).run prog)):=by kernel_rfl
theorem aI9 (x:Sess):x.enc.length=5∧aN x.enc=true:=⟨rfl,rfl⟩
theorem aQh (x:Ser):x.enc.length=4∧aN x.enc=true:=⟨rfl,rfl⟩
theorem bFn (l:List Sess) (id seq:Int) (S:St) (K:KW):C 105 [.imm (l.map Sess.enc),.int .i64 id,.int .i64 seq] S K=K (.tup [.agg [.int .i64 (cL l id seq).1.why,.int .i64 (cL l id seq).1.number,.int .i64 (cL l id seq).1.gross],.bool (cL l id seq).2.1,.int .i64 (cL l id seq).2.2]) S:=by
 refine (bKs rfl ?_).eq S K
 simp only [aSo,aF9,kk,aXd]
 by_cases hr:gF l=true
 ·have hb:=lR hr
  simp only [hr,kk,bBe l id (show l.length<1000000 by omega),cL,Bool.true_eq_false,if_false]
  rcases jA l id with h | ⟨i,s,h,h2,h3⟩
  ·simp only [h,show (-1:Int)<0 by decide,kk,oo,Rep.zero,if_true]
  ·simp only [h,show ¬ (i:Int)<0 by omega,kk,if_false,aBu h2,Sess.enc,Int.toNat_natCast,h2]
   by_cases c1:seq<1
   ·simp only [c1,kk,oo,Rep.zero,true_or,if_true]
   ·by_cases c2:1099511627776<seq
    ·simp only [c1,c2,kk,oo,Rep.zero,or_true,if_true,if_false,decide_true]
    ·simp only [c1,c2,kk,oo,or_self,if_false,decide_false]
     by_cases c3:seq=s.last
     ·simp only [c3,kk,oo,if_true]
     ·by_cases c4:seq<s.last<;>simp only [c3,c4,kk,oo,Rep.zero,if_true,if_false]
 ·have hr:gF l=false:=by simpa using hr
  simp only [hr,kk,oo,cL,Rep.zero,if_true]
theorem bFo (l:List Sess) (n:Int) (S:St) (K:KW):C 173 [.imm (l.map Sess.enc),.int .i64 n] S K=K (.tup [.imm ((mW l n).1.map Sess.enc),.int .i64 (mW l n).2]) S:=by
 refine (bLe rfl ?_).eq S K
 simp only [aTv,aFm,kk,aXd]
 by_cases hr:gF l=true
 ·have hb:=lR hr
  simp only [hr,kk,bBe l n (show l.length<1000000 by omega),mW,Bool.true_eq_false,false_or]
  by_cases c1:n<1
  ·simp only [c1,kk,oo,if_true,List.map_nil]
  ·simp only [c1,kk,if_false]
   by_cases c2:0≤gQ l n
   ·simp only [c2,kk,oo,if_true,List.map_nil]
   ·by_cases c3:8≤l.length
    ·simp only [c2,c3,show (8:Int)≤(l.length:Int) by omega,kk,oo,if_true,if_false,List.map_nil]
    ·simp only [c2,c3,show ¬ (8:Int)≤(l.length:Int) by omega,kk,if_false]
     have hj:∀ k:Nat,k=kW (fun s:Sess=>decide (s.id<n)) l→aAc C (fun v0 S0=>bX S0 v0=Except.ok (.tup [.imm ((fG l (kW (fun s:Sess=>decide (s.id<n)) l) ⟨n,0,Rep.zero⟩).map Sess.enc),.int .i64 0])) (.imm (l.map Sess.enc)) (.int .i64 n) (.int .i64 (k:Int)) ⟨0,.nil⟩:=by
      intro k hk
      obtain ⟨v,S1,q1,x1,own⟩:=aQf (b:=40) aI9 l pS (by omega) (by unfold fK;omega)
      have w1:=x1.wf pS
      have hkl:k≤l.length:=by rw [hk];exact vT _ _
      obtain ⟨v2,S2,q2,w2,own2⟩:=bFj bO6 (by decide) own w1 (aI9 ⟨n,0,Rep.zero⟩) (by simp;omega) (by simp [fK];omega) (i:=k) (by simpa using hkl)
      simp only [Sess.enc,Rep.zero] at q2
      simp only [aAc,kk,q1,bFi]
      rw [aO0 bFk q2]
      rw [←lS] at own2
      simp only [oo,own2.frz (dU (fun _=>rfl) _),hk]
     refine aX l (step:=eP (fun s:Sess=>decide (s.id<n))) (fin:=id) (fun i k vs S=>k=i∧vs=[.int .i64 (i:Int)]∧S=⟨0,.nil⟩) (fun r=>r=kW (fun s:Sess=>decide (s.id<n)) l) ?_ ?_ ⟨rfl,rfl,rfl⟩ rfl
     ·rintro i s k vs S hi ⟨rfl,rfl,rfl⟩ aO H
      have hil:=(List.getElem?_eq_some_iff.1 hi).1
      simp only [eP] at H
      simp only [aFl,kk,dG hi,aBu hi,Sess.enc,mZ (show k<1000000000 by omega)]
      by_cases c:s.id<n<;>simp only [c,kk,if_true,if_false,decide_true,decide_false] at H ⊢
      ·exact H _ _ ⟨rfl,rfl⟩
      ·exact hj _ H
     ·rintro k vs S ⟨rfl,rfl,rfl⟩ aO H
      simp only [aFl,kk,Int.lt_irrefl]
      exact hj _ (by simpa using H)
 ·have hr:gF l=false:=by simpa using hr
  simp only [hr,kk,oo,mW,true_or,if_true,List.map_nil]
theorem bO8:jJ prog 28=some 132:=by kernel_rfl
theorem bFp:rI prog 132=some [.int .i64 0,.int .i64 0,.int .i64 0,.int .i64 0,.int .i64 0]:=by kernel_rfl
theorem bFq:sz prog 132=5:=by kernel_rfl
theorem bO9 (l:List Sess) (id:Int) (S:St) (K:KW):C 182 [.imm (l.map Sess.enc),.int .i64 id] S K=K (.tup [.imm ((gB l id).1.map Sess.enc),.int .i64 (gB l id).2]) S:=by
 refine (bLw rfl ?_).eq S K
 simp only [aUb,kk,aXd]
 by_cases hr:gF l=true
 ·have hb:=lR hr
  simp only [hr,kk,bBe l id (show l.length<1000000 by omega),gB,Bool.true_eq_false]
  rcases jA l id with h | ⟨i,s,h,h2,h3⟩
  ·simp only [h,show (-1:Int)<0 by decide,kk,oo,if_true,List.map_nil]
  ·have hil:=(List.getElem?_eq_some_iff.1 h2).1
   obtain ⟨v,S1,q1,x1,own⟩:=aQf (b:=40) aI9 l pS (by omega) (by unfold fK;omega)
   obtain ⟨v2,S2,q2,x2,own2⟩:=own.delete bO8 bFp bFq (aCv (x1.wf pS)) pS (by simp [fK];omega) (i:=i) (by simpa using hil)
   rw [←aKh] at own2
   simp only [h,show ¬ (i:Int)<0 by omega,kk,if_false,q1,eM (show -9223372036854775808≤(i:Int)+1 by omega) (show (i:Int)+1≤9223372036854775807 by omega),Int.toNat_natCast]
   rw [bO5 bFm q2]
   simp only [oo,own2.frz (dU (fun _=>rfl) _)]
 ·have hr:gF l=false:=by simpa using hr
  simp only [hr,kk,oo,gB,if_true,List.map_nil]
theorem bOa (l:List Sess) (id seq:Int) (r:Rep) (S:St) (K:KW):C 107 [.imm (l.map Sess.enc),.int .i64 id,.int .i64 seq,.agg [.int .i64 r.why,.int .i64 r.number,.int .i64 r.gross]] S K=K (.tup [.imm ((jL l id seq r).1.map Sess.enc),.int .i64 (jL l id seq r).2]) S:=by
 refine (bKu rfl ?_).eq S K
 simp only [aSs,kk,bFn,jL]
 by_cases h0:(cL l id seq).2.2=0
 ·simp only [h0,kk,not_true_eq_false,if_false]
  by_cases h1:(cL l id seq).2.1=true
  ·simp only [h1,kk,oo,if_true,List.map_nil]
  ·obtain ⟨hr,i,s,h2,h3⟩:=aBn h0
   have hb:=lR hr
   have hil:=(List.getElem?_eq_some_iff.1 h3).1
   simp only [h1,kk,if_false,h2,Int.toNat_natCast,h3]
   obtain ⟨S0,hS0⟩:∃ S0:St,S0=⟨1+1,((Tr.nil.put 0 (Blk.row 0 (1+1+1) [[V.int .i64 r.why,.int .i64 r.number,.int .i64 r.gross]])).put 1 (Blk.row 0 3 [[V.int .i64 0,.int .i64 0,.int .i64 0]])).put 1 (Blk.row 0 3 [[V.int .i64 (cL l id seq).1.why,.int .i64 (cL l id seq).1.number,.int .i64 (cL l id seq).1.gross]])⟩:=⟨_,rfl⟩
   have w0:WF S0:=by rw [hS0];exact kX (n:=2) (kX (n:=1) (m:=2) (kX (m:=1) pS (by decide) (by decide)) (by decide) (by decide)) (by decide) (by decide)
   have hg0:aI S0 0 0=.ok (3,[r.enc]):=by rw [hS0];rfl
   rw [←hS0]
   obtain ⟨v,S1,q1,x1,own⟩:=aLx (b:=40) aI9 l w0 (by omega) (by unfold fK;omega)
   have w1:=x1.wf w0
   have xb:Ext S0 ⟨S1.next+12,S1.heap⟩:=x1.bump 12
   have own':=own.ext ((Ext.refl S1).bump 12)
   have hg1:aI ⟨S1.next+12,S1.heap⟩ 0 0=.ok (3,[r.enc]):=x1.row hg0
   have hb1:S0.next=2:=by rw [hS0]
   obtain ⟨a,ver,e1,e2,e3,e4,_,set1⟩:=own'.setK xb w0 (i:=i) (cs:=s.enc) (by simp [h3]) .i64
   obtain ⟨S2,st1,x2,n2,own2,keep2,w2⟩:=set1 1 1 (.int .i64 seq) rfl rfl (by decide)
   obtain ⟨a',ver',e1',_,_,e4',_,set2⟩:=own2.setK x2 w0 (i:=i) (cs:=splice s.enc 1 [.int .i64 seq]) (by rw [List.getElem?_set_self (by simpa using hil)];rfl) .i64
   obtain ⟨rfl,rfl⟩:a'=a∧ver'=ver:=by rw [e1] at e1';injection e1' with h1 h2;exact ⟨h1.symm,h2.symm⟩
   obtain ⟨S3,mJ,_,n3,own3,keep3,w3⟩:=set2 2 3 (.agg r.enc) rfl rfl (by decide)
   have hg2:=bI hg1 (keep2 0 (by omega))
   simp only [Rep.enc] at hg1 hg2 mJ
   have hfz:frzVs mL (pV (lA S1 3) S1) [v,.int .i64 id]=.ok [.imm (l.map Sess.enc),.int .i64 id]:=by
    simp only [frzVs,own.frz (dU (fun _=>rfl) _),dP]
   simp only [q1,kk]
   rw [show C 174 [v,.int .i64 id] S1 _=_ from (bFg l id (by omega)).frz bEo rfl hfz (by simp [ptrsVs,own.ptrs,qB]) (.inl rfl) _]
   have e5:(0:Nat)≠a':=by omega
   have hfin:((l.map Sess.enc).set i (splice s.enc 1 [.int .i64 seq])).set i (splice (splice s.enc 1 [.int .i64 seq]) 2 r.enc)=(l.set i ⟨s.id,seq,r⟩).map Sess.enc:=by
    rw [List.set_set,List.map_set];rfl
   simp only [V.cells] at own3
   rw [hfin] at own3
   have e4'':cU 5 v (.int .i64 (i:Int))=.ok (.ptr a' ver' i 0):=e4
   simp only [h2,e4'',kk,hg1,hg2,st1,mJ,oo,own3.frz (dU (fun _=>rfl) _)]
   simp
 ·simp only [h0,kk,oo,if_true,not_false_eq_true,List.map_nil]
end Go.Proofs.YtoaibmbldmckaaaGreat
end
section
namespace Go.Proofs.YtoaibmbldmckaaaGreat
open Go.AM Tryz
theorem g86 (l:List Ser) (S:St) (K:KW):C 86 [.imm (l.map Ser.enc)] S K=K (.bool (mO l)) S:=by
 refine (v86 rfl ?_).eq S K
 simp only [m86,kk,mO]
 by_cases h:8<l.length
 ·rw [if_pos (by omega),if_pos h]
 have h':¬ (8:Int)<(l.length:Int):=by omega
 simp only [h,h',kk]
 refine aX l (step:=mX) (fin:=fun _=>true) (fun i s vs S=>s=gA l i∧vs=[.bool false,.int .i64 (i:Int)]) (fun r=>V.bool r=.bool (aR mX (fun _=>true) l none)) ?_ ?_ ⟨rfl,rfl⟩ rfl
 ·rintro i r s vs S hi ⟨rfl,rfl⟩ aO H
  have hil:=(List.getElem?_eq_some_iff.1 hi).1
  have hn:gA l (i+1)=some r:=by simpa [gA] using hi
  simp only [hn,mX] at H
  simp only [aK9,aK8,kk,dG hi,zG hi,Ser.enc,aQe,mZ (show i<1000000000 by omega)]
  cases hna:eN r.name
  ·simp [hna] at H ⊢;exact H
  ·simp only [hna,kk,Bool.true_eq_false,if_false] at H ⊢
   cases i with
   | zero=>
    simp only [gA,oC,kk,Bool.false_eq_true,if_false,if_true,qQ,Bool.or_eq_true,decide_eq_true_eq] at H ⊢
    simp only [Int.natCast_zero,Int.lt_irrefl,kk,if_false]
    grind
   | succ j=>
    have hj:l[j]?=some l[j]:=List.getElem?_eq_getElem (by omega)
    have hp:gA l (j+1)=some l[j]:=by simp [gA,hj]
    simp only [hp,gt0,kk,wrm (show j+1<1000000000 by omega),zG hj,Ser.enc,oC,qQ,Bool.or_eq_true,decide_eq_true_eq] at H ⊢
    grind
 ·rintro s vs S ⟨rfl,rfl⟩ aO H
  simp only [aK9,kk,Int.lt_irrefl]
  exact H
theorem bFr:gU prog 263=some none:=by kernel_rfl
theorem bOc (name:List UInt8) (s:Ser):Fr 263 (fun a=>[.agg s.enc,.ptr a 0 0 0]) 1 [.str name] (.bool (s.name == name)) [.str name]:=by
 refine FnR.of bEu (lv:=bE 263) (Pt.next rfl (Pt.head rfl)) rfl ?_ rfl rfl
 rw [bN9]
 simp only [aZh,kk,Ser.enc,iQ]
 rfl
theorem bOd (l:List Ser) (name:List UInt8) (hb:l.length<1000000):Fv 233 [.imm (l.map Ser.enc),.str name] (.int .i64 (iB l name)):=by
 refine bMt rfl ?_
 have h:=(bFe 263 bFr rfl _ (bOc name) l hb).eq_same (S:=⟨1,Tr.nil.put 0 (.row 0 1 [[.str name]])⟩) (a:=0) (Tr.get_put_sameB _ _ _ trivial)
 simp only [aV7,kk,h,iB]
theorem bBf (l:List Ser) (name:List UInt8) (hb:l.length<1000000) (S:St) (K:KW):C 233 [.imm (l.map Ser.enc),.str name] S K=K (.int .i64 (iB l name)) S:=(bOd l name hb).eq S K
theorem bOe (l:List Ser) (name:List UInt8) (hb:l.length<1000000) (S:St) (K:KW):C 241 [.imm (l.map Ser.enc),.str name] S K=K (.tup [.agg [.str (kE l name).1.name,.int .i64 (kE l name).1.next,.int .i64 (kE l name).1.limit,.bool (kE l name).1.shut],.bool (kE l name).2]) S:=by
 refine (bN3 rfl ?_).eq S K
 simp only [aVh,kk,bBf l name hb,kE]
 rcases kP l name with h | ⟨i,s,h,h2,h3⟩
 ·simp only [h,show (-1:Int)<0 by decide,kk,oo,Ser.zero,if_true]
 ·simp only [h,show ¬ (i:Int)<0 by omega,kk,if_false,zG h2,Ser.enc,Int.toNat_natCast,h2,oo]
theorem bFs (l:List Ser) (name:List UInt8) (S:St) (K:KW):C 236 [.imm (l.map Ser.enc),.str name] S K=K (gE (iC l name)) S:=by
 refine (bMx rfl ?_).eq S K
 simp only [aVb,kk,g86,iC,gE]
 by_cases hr:mO l=true
 ·have hb:=oF hr
  simp only [hr,kk,bBf l name (show l.length<1000000 by omega),Bool.true_eq_false,if_false]
  rcases kP l name with h | ⟨i,s,h,h2,h3⟩
  ·simp only [h,show (-1:Int)<0 by decide,kk,oo,if_true]
  ·simp only [h,show ¬ (i:Int)<0 by omega,kk,if_false,zG h2,Ser.enc,Int.toNat_natCast,h2,oo]
   cases s.shut<;>simp
 ·have hr:mO l=false:=by simpa using hr
  simp only [hr,kk,oo,if_true]
theorem bBg (l:List Ser) (hb:l.length<1000000) {S:St} (w:WF S) {K:KW} (k:∀ v S',Ext S S'→Own S S' 4 v (l.map Ser.enc)→K v S'):C 235 [.imm (l.map Ser.enc)] S K:=by
 refine bMv rfl ?_
 simp only [aV9,kk]
 cases l with
 | nil=>
  exact k .nils ⟨S.next+0,S.heap⟩ ⟨fun a b h=>h,Nat.le_refl _,fun w=>w⟩ (Own.nil _ _ _)
 | cons x l=>
  obtain ⟨v,S1,q1,x1,own⟩:=aLx (b:=40) aQh (x::l) pS (by omega) (by unfold fK;omega)
  have q2:dK 4 40 .nils (.imm ((x::l).map Ser.enc)) none E0=.ok (.sl 0 0 4 0 (l.length+1),⟨1,Tr.nil.put 0 (.row 0 4 ((x::l).map Ser.enc))⟩):=by
   have a1:iS 4 ((x::l).map Ser.enc)=true∧((x::l).map Ser.enc).all aN=true:=eE (fun c hc=>by obtain ⟨y,_,rfl⟩:=List.mem_map.1 hc;exact aQh y)
   simp only [dK,bV]
   rw [if_pos a1]
   simp only [List.map_cons]
   have hb2:l.length+1<1000000:=hb
   simp only [List.length_cons,List.length_map,fL]
   rw [if_pos (by unfold fK;omega)]
  rw [q2]
  simp only [kk]
  have hc:((x::l).map Ser.enc).all cloVs=true:=dU (fun _=>rfl) _
  have ho:pD [0] (.sl 0 0 4 0 (l.length+1)) ⟨1,Tr.nil.put 0 (.row 0 4 ((x::l).map Ser.enc))⟩ S=.ok (.sl S.next 0 4 0 (l.length+1),⟨S.next+1,S.heap.put S.next (.row 0 4 ((x::l).map Ser.enc))⟩):=by
   have hg:(Tr.nil.put 0 (Blk.row 0 4 ((x::l).map Ser.enc))).get 0=some (.row 0 4 ((x::l).map Ser.enc)):=Tr.get_put_sameB _ _ _ trivial
   obtain ⟨z1,z2⟩:=nX (S:=⟨1,Tr.nil.put 0 (.row 0 4 ((x::l).map Ser.enc))⟩) (n:=2) hc
   simp only [List.map_cons] at hg z1 z2
   simp only [pD,V.cells,zU,iI,Nat.beq_refl,Bool.true_or,cond_true,hZ,hg,z1,oV,tA,dQ,z2,pY,mN,aD1,hg,z1,z2,Nat.zero_add,List.append_nil,List.any_nil,List.length_cons,List.length_nil,Nat.zero_add,Bool.not_false,Bool.and_self,List.nil_append,List.map_cons]
  rw [ho]
  simp only [kk]
  refine k _ _ (Ext.new w _) ⟨.inr ⟨S.next,0,[],by simp,Nat.le_refl _,Nat.lt_succ_self _,?_⟩,fun c hc=>by obtain ⟨y,_,rfl⟩:=List.mem_map.1 hc;exact aQh y⟩
  rw [List.append_nil];exact Tr.get_put_sameB _ _ _ trivial
theorem bOf (l:List Ser) (name:List UInt8) (limit:Int) (S:St) (K:KW):C 175 [.imm (l.map Ser.enc),.str name,.int .i64 limit] S K=K (.tup [.imm ((fB l name limit).1.map Ser.enc),.int .i64 (fB l name limit).2]) S:=by
 refine (bLi rfl ?_).eq S K
 simp only [aTz,aFo,kk,g86,aQe]
 by_cases hr:mO l=true
 ·have hb:=oF hr
  simp only [hr,kk,bBf l name (show l.length<1000000 by omega),fB,Bool.true_eq_false,if_false]
  by_cases hn:eN name=true
  ·simp only [hn,kk,Bool.true_eq_false,if_false]
   by_cases c1:limit<1
   ·simp only [c1,kk,oo,if_true,List.map_nil,true_or]
   ·by_cases c2:1099511627776<limit
    ·simp only [c1,c2,kk,oo,if_true,if_false,List.map_nil,or_true,decide_true]
    ·simp only [c1,c2,kk,if_false,or_self,decide_false]
     by_cases c3:0≤iB l name
     ·simp only [c3,kk,oo,if_true,List.map_nil]
     ·by_cases c4:8≤l.length
      ·simp only [c3,c4,show (8:Int)≤(l.length:Int) by omega,kk,oo,if_true,if_false,List.map_nil]
      ·simp only [c3,c4,show ¬ (8:Int)≤(l.length:Int) by omega,kk,if_false]
       have hj:∀ k:Nat,k=kW (fun s:Ser=>fY s.name name) l→aAd C (fun v0 S0=>bX S0 v0=Except.ok (.tup [.imm ((fG l (kW (fun s:Ser=>fY s.name name) l) ⟨name,1,limit,false⟩).map Ser.enc),.int .i64 0])) (.imm (l.map Ser.enc)) (.str name) (.int .i64 limit) (.int .i64 (k:Int)) ⟨0,.nil⟩:=by
        intro k hk
        simp only [aAd]
        refine bBg l (by omega) pS fun v S1 x1 own=>?_
        have w1:=x1.wf pS
        have hkl:k≤l.length:=by rw [hk];exact vT _ _
        obtain ⟨v2,S2,q2,w2,own2⟩:=bFj bO7 (by decide) own w1 (aQh ⟨name,1,limit,false⟩) (by simp;omega) (by simp [fK];omega) (i:=k) (by simpa using hkl)
        simp only [Ser.enc] at q2
        simp only [kk,aQg]
        rw [aO0 bFl q2]
        rw [←lS] at own2
        simp only [oo,own2.frz (dU (fun _=>rfl) _),hk]
       refine aX l (step:=eP (fun s:Ser=>fY s.name name)) (fin:=id) (fun i k vs S=>k=i∧vs=[.int .i64 (i:Int)]∧S=⟨0,.nil⟩) (fun r=>r=kW (fun s:Ser=>fY s.name name) l) ?_ ?_ ⟨rfl,rfl,rfl⟩ rfl
       ·rintro i s k vs S hi ⟨rfl,rfl,rfl⟩ aO H
        have hil:=(List.getElem?_eq_some_iff.1 hi).1
        simp only [eP] at H
        simp only [aFn,kk,dG hi,zG hi,Ser.enc,mZ (show k<1000000000 by omega)]
        cases c:fY s.name name<;>simp only [c,kk,if_true,if_false,Bool.false_eq_true] at H ⊢
        ·exact hj _ H
        ·exact H _ _ ⟨rfl,rfl⟩
       ·rintro k vs S ⟨rfl,rfl,rfl⟩ aO H
        simp only [aFn,kk,Int.lt_irrefl]
        exact hj _ (by simpa using H)
  ·have hn:eN name=false:=by simpa using hn
   simp only [hn,kk,oo,if_true,List.map_nil]
 ·have hr:mO l=false:=by simpa using hr
  simp only [hr,kk,oo,fB,if_true,List.map_nil]
theorem bOg (l:List Ser) (name:List UInt8) (S:St) (K:KW):C 177 [.imm (l.map Ser.enc),.str name] S K=K (.tup [.imm ((oG l name).1.map Ser.enc),.int .i64 (oG l name).2]) S:=by
 refine (bLm rfl ?_).eq S K
 simp only [aU2,kk,bFs,gE,oG]
 by_cases h0:(iC l name).2=0
 ·obtain ⟨hr,i,s,h1,_,h2,h3,_⟩:=vU h0
  have hb:=oF hr
  have hil:=(List.getElem?_eq_some_iff.1 h2).1
  have e1:(iC l name).1=(i:Int):=by rw [h1]
  simp only [h0,kk,not_true_eq_false,if_false]
  refine bBg l (by omega) pS fun v S1 x1 own=>?_
  obtain ⟨a,ver,_,_,_,e4,_,set1⟩:=own.setK x1 pS (i:=i) (cs:=s.enc) (by simp [h2]) .i64
  obtain ⟨S2,st1,x2,n2,own2,keep2,w2⟩:=set1 3 1 (.bool true) rfl rfl (by decide)
  have hfin:(l.map Ser.enc).set i (splice s.enc 3 [.bool true])=(l.set i { s with shut:=true }).map Ser.enc:=by rw [List.map_set];rfl
  simp only [V.cells] at own2
  rw [hfin] at own2
  simp only [e1,e4,kk,st1,oo,own2.frz (dU (fun _=>rfl) _),Int.toNat_natCast,h2]
 ·simp only [h0,kk,oo,if_true,not_false_eq_true,List.map_nil]
theorem bOh (l:List Ser) (name:List UInt8) (S:St) (K:KW):C 271 [.imm (l.map Ser.enc),.str name] S K=K (.tup [.imm ((dC l name).1.map Ser.enc),.int .i64 (dC l name).2.1,.int .i64 (dC l name).2.2]) S:=by
 refine (bNh rfl ?_).eq S K
 simp only [aVv,kk,bFs,gE,dC]
 by_cases h0:(iC l name).2=0
 ·obtain ⟨hr,i,s,h1,_,h2,h3,_⟩:=vU h0
  have hb:=oF hr
  have hil:=(List.getElem?_eq_some_iff.1 h2).1
  have e1:(iC l name).1=(i:Int):=by rw [h1]
  simp only [h0,kk,not_true_eq_false,if_false,e1,zG h2,Ser.enc,Int.toNat_natCast,h2]
  by_cases c:s.limit<s.next
  ·simp only [c,kk,oo,if_true,List.map_nil]
  ·simp only [c,kk,if_false]
   refine bBg l (by omega) pS fun v S1 x1 own=>?_
   obtain ⟨a,ver,_,_,_,e4,hat,set1⟩:=own.setK x1 pS (i:=i) (cs:=s.enc) (by simp [h2]) .i64
   obtain ⟨S2,st1,x2,n2,own2,keep2,w2⟩:=set1 1 1 (.int .i64 (wr .i64 (s.next+1))) rfl rfl (by decide)
   have hld:=hat.load none 1
   have hfin:(l.map Ser.enc).set i (splice s.enc 1 [.int .i64 (wr .i64 (s.next+1))])=(l.set i { s with next:=wr .i64 (s.next+1) }).map Ser.enc:=by rw [List.map_set];rfl
   simp only [V.cells] at own2
   rw [hfin] at own2
   simp only [adv,kk] at hld
   simp only [e4,kk,hld,Ser.enc,st1,oo,own2.frz (dU (fun _=>rfl) _)]
 ·simp only [h0,kk,oo,if_true,not_false_eq_true,List.map_nil]
theorem zne {S:St} (h:0<S.next):((0:Nat)=S.next)=False:=by simp;omega
theorem bOi (l:List Rate) (cat:List UInt8) (d:Date) (S:St) (K:KW):C 278 [.imm (l.map Rate.enc),.str cat,.agg [.int .i64 d.y,.int .i64 d.m,.int .i64 d.d]] S K=K (.tup [.int .i64 (iD l cat d).1,.bool (iD l cat d).2]) S:=by
 refine (bNj rfl ?_).eq S K
 simp only [aVx,kk,g85,zZ,iD]
 by_cases hr:fZ l=true
 ·have hb:=tS hr
  simp only [hr,kk,Bool.true_eq_false,if_false]
  cases hd:d.right
  ·simp only [hd,kk,oo,if_true]
  simp only [hd,kk,Bool.true_eq_false,if_false]
  refine aX l (step:=jB cat d) (fin:=id) (fun i s vs S=>vs=[.int .i64 s.1,.bool s.2,.int .i64 (i:Int)]∧aI S 0 0=.ok (3,[d.enc])∧0<S.next) (fun r=>r=aR (jB cat d) id l (0,false)) ?_ ?_ (s:=(0,false)) ⟨rfl,by simp only [kk];rfl,Nat.zero_lt_one⟩ rfl
  ·rintro i r ⟨bp,ok⟩ vs S hi ⟨rfl,hg,h0⟩ aO H
   have hil:=(List.getElem?_eq_some_iff.1 hi).1
   simp only [jB] at H
   simp only [aG9,aG8,kk,dG hi,aGg hi,Rate.enc,mZ (show i<1000000000 by omega),iQ,zne h0,gm,hg,Date.enc,aQc]
   have hg':∀ b b':Blk,aI ⟨S.next+1,(S.heap.put S.next b).put S.next b'⟩ 0 0=.ok (3,[d.enc]):=fun b b'=>by simp only [iQ,kk,zne h0,gm,hg]
   cases c1:(r.cat == cat)<;>simp only [c1,kk,Bool.false_eq_true,false_and,if_false,true_and] at H ⊢
   ·exact H _ _ ⟨rfl,hg' _ _,Nat.succ_pos _⟩
   ·cases c2:d.before r.day<;>simp only [c2,kk,if_true,if_false,Bool.true_eq_false] at H ⊢<;>exact H _ _ ⟨rfl,hg' _ _,Nat.succ_pos _⟩
  ·rintro ⟨bp,ok⟩ vs S ⟨rfl,hg,h0⟩ aO H
   have H:(bp,ok)=aR (jB cat d) id l (0,false):=H
   simp only [aG9,kk,Int.lt_irrefl,oo,←H]
 ·have hr:fZ l=false:=by simpa using hr
  simp only [hr,kk,oo,if_true]
theorem bOj:apT prog 24=some (5,48):=by kernel_rfl
theorem bFt:uN 237=some (.spec ((Sp.ins 24).run prog)):=by kernel_rfl
theorem aY5 (x:Rate):x.enc.length=5∧aN x.enc=true:=⟨rfl,rfl⟩
theorem Date.ext_iff (a b:Date):(a=b)=((a.y=b.y∧a.m=b.m)∧a.d=b.d):=by
 obtain ⟨_,_,_⟩:=a;obtain ⟨_,_,_⟩:=b;simp [and_assoc]
theorem aXe {P:Program} {T:TypeId} {α:Type} {enc:α→List V} {n b:Nat} (hT:apT P T=some (n,b)) (hn:1<n) (hl:∀ x,(enc x).length=n∧aN (enc x)=true) (l:List α) {S:St} (w:WF S) {ka kb m:Nat} (hk:S.next≤ka) (hm:ka<m) (hkb:S.next≤kb) (hmb:kb<m) (hne:ka≠kb)
  (h1:(l.length+1)*b≤35184372088832) (h2:l.length+1<fK) (x:α) {i:Nat} (hi:i≤l.length):
  ∃ v S1 v' S',dK n b .nils (.imm (l.map enc)) (some ka) ⟨m,S.heap⟩=.ok (v,S1)∧(∀ y,y<S.next→S1.heap.get y=S.heap.get y)∧gD P T v (.int .i64 (i:Int)) (.sl kb 0 n 0 1) ⟨S1.next,S1.heap.put kb (.row 0 n [enc x])⟩=.ok (v',S')∧Own E0 S' n v' ((fG l i x).map enc):=by
 have hx:Ext S ⟨m,S.heap⟩:=⟨fun a b h=>h,by show S.next≤m;omega,fun w a b h=>by have:=w a b h;show a<m;omega⟩
 have hnone:∀ k,S.next≤k→S.heap.get k=none:=by
  intro k hk
  cases hq:S.heap.get k with
  | none=>rfl
  | some b=>have:=w k b hq;omega
 have hc:∀ cs,cs∈l.map enc→cs.length=n∧aN cs=true:=fun cs hc=>by obtain ⟨x,_,rfl⟩:=List.mem_map.1 hc;exact hl x
 obtain ⟨a1,a2⟩:=eE hc
 have hwm:WF ⟨m,S.heap⟩:=hx.wf w
 have key:∃ v S1,dK n b .nils (.imm (l.map enc)) (some ka) ⟨m,S.heap⟩=.ok (v,S1)∧WF S1∧S1.next=m∧(∀ y,y<S.next→S1.heap.get y=S.heap.get y)∧S1.heap.get kb=none∧(∀ a ver k,v=.sl a ver n 0 k→a=ka)∧Own E0 S1 n v (l.map enc):=by
  cases l with
  | nil=>exact ⟨.nils,⟨m,S.heap⟩,rfl,hwm,rfl,fun _ _=>rfl,hnone kb hkb,(fun _ _ _ h=>by cases h),Own.nil _ _ _⟩
  | cons y l=>
   refine ⟨.sl ka 0 n 0 (l.length+1),⟨m,S.heap.put ka (.row 0 n ((y::l).map enc))⟩,?_,kX hwm hm (Nat.le_refl _),rfl,fun z hz=>Tr.get_put_neB _ _ _ _ trivial (by omega),?_,fun _ _ _ h=>(by cases h;rfl),⟨.inr ⟨ka,0,[],by simp,Nat.zero_le _,hm,?_⟩,hc⟩⟩
   ·simp only [dK,bV]
    rw [if_pos ⟨a1,a2⟩]
    simp only [List.map_cons,List.length_cons,List.length_map,lM] at h1 h2 ⊢
    have hb2:(l.length+1)*b≤(l.length+1+1)*b:=Nat.mul_le_mul_right _ (by omega)
    rw [if_pos ⟨by omega,by omega⟩]
   ·rw [Tr.get_put_neB _ _ _ _ trivial (Ne.symm hne)];exact hnone kb hkb
   ·rw [List.append_nil];exact Tr.get_put_sameB _ _ _ trivial
 obtain ⟨v,S1,q1,w1,n1,q2,q3,q4,own⟩:=key
 have x1:Ext S1 ⟨S1.next,S1.heap.put kb (.row 0 n [enc x])⟩:=⟨fun a c hc=>by
  show (S1.heap.put kb _).get a=some c
  rw [Tr.get_put_neB _ _ _ _ trivial (fun e=>by rw [e,q3] at hc;cases hc)];exact hc,Nat.le_refl _,fun w=>kX w (by omega) (Nat.le_refl _)⟩
 obtain ⟨v',S',p1,_,p3⟩:=(own.ext x1).insert hT hn (aCv (x1.wf w1)) pS (bx:=kb) (c:=enc x) (aS _ _ _ _ _ _) (fun a ver k hv=>by rw [q4 a ver k hv];exact hne) (hl x) (by simpa using h1) (by simpa using h2) (i:=i) (by simpa using hi)
 rw [←lS] at p3
 exact ⟨v,S1,v',S',q1,q2,p1,p3⟩
theorem bOk (l:List Rate) (r:Rate) (S:St) (K:KW):C 178 [.imm (l.map Rate.enc),.agg [.str r.cat,.int .i64 r.day.y,.int .i64 r.day.m,.int .i64 r.day.d,.int .i64 r.bp]] S K=K (.tup [.imm ((gV l r).1.map Rate.enc),.int .i64 (gV l r).2]) S:=by
 refine (bLo rfl ?_).eq S K
 simp only [aU4,kk,g85,gV]
 by_cases hr:fZ l=true
 ·have hb:=tS hr
  simp only [hr,kk,Bool.true_eq_false,if_false,bFc]
  by_cases h0:tQ r=0
  ·simp only [h0,kk,not_true_eq_false,if_false]
   refine aX l (step:=kF r) (fin:=some) (fun i k vs S=>vs=[.nils,.int .i64 0,.int .i64 (k:Int),.int .i64 (i:Int)]∧aI S 0 0=.ok (5,[r.enc])∧0<S.next∧WF S∧k≤i) (fun q=>q=aR (kF r) some l 0) ?_ ?_ (s:=0) ⟨rfl,by simp only [kk];rfl,Nat.zero_lt_one,kX pS (by decide) (by decide),Nat.le_refl _⟩ rfl
   ·rintro i x k vs S hi ⟨rfl,hg,hp,w,hki⟩ aO H
    have hil:=(List.getElem?_eq_some_iff.1 hi).1
    simp only [kF,Date.ext_iff,kk] at H
    have hg':∀ b b':Blk,aI ⟨S.next+1,(S.heap.put S.next b).put S.next b'⟩ 0 0=.ok (5,[r.enc]):=fun b b'=>by simp only [iQ,kk,zne hp,gm,hg]
    have hw':∀ b b':Blk,WF ⟨S.next+1,(S.heap.put S.next b).put S.next b'⟩:=fun b b'=>kX (kX w (Nat.lt_succ_self _) (Nat.le_succ _)) (Nat.lt_succ_self _) (Nat.le_refl _)
    simp only [aFq,aFp,kk,dG hi,aGg hi,Rate.enc,mZ (show i<1000000000 by omega),mZ (show k<1000000000 by omega),iQ,zne hp,gm,hg,bFd]
    cases c1:(x.cat == r.cat)<;>simp only [c1,kk,Bool.false_eq_true,false_and,if_false,true_and,Bool.and_eq_true,decide_eq_true_eq] at H ⊢
    ·cases c3:fP x r<;>simp only [c3,kk,if_true,if_false,Bool.false_eq_true] at H ⊢<;>exact H _ _ ⟨rfl,hg' _ _,Nat.succ_pos _,hw' _ _,by omega⟩
    ·by_cases c2:(x.day.y=r.day.y∧x.day.m=r.day.m)∧x.day.d=r.day.d<;>simp only [c2,kk,if_true,if_false] at H ⊢
     ·have H':aR (kF r) some l 0=none:=H.symm
      simp only [oo,H',List.map_nil]
     ·cases c3:fP x r<;>simp only [c3,kk,if_true,if_false,Bool.false_eq_true] at H ⊢<;>exact H _ _ ⟨rfl,hg' _ _,Nat.succ_pos _,hw' _ _,by omega⟩
   ·rintro k vs S ⟨rfl,hg,hp,w,hki⟩ aO H
    have H':aR (kF r) some l 0=some k:=H.symm
    simp only [aFq,kk,Int.lt_irrefl,H']
    by_cases c:24≤l.length
    ·simp only [c,show (24:Int)≤(l.length:Int) by omega,kk,oo,if_true,List.map_nil]
    ·obtain ⟨v,S1,v',S',q1,q2,q3,own⟩:=aXe bOj (by decide) aY5 l w (ka:=S.next+1) (kb:=S.next+4) (m:=S.next+8) (by omega) (by omega) (by omega) (by omega) (by omega) (by omega) (by unfold fK;omega) r hki
     have hg1:aI S1 0 0=.ok (5,[r.enc]):=bI hg (q2 0 hp)
     simp only [Rate.enc] at hg hg1 q3
     simp only [c,show ¬ (24:Int)≤(l.length:Int) by omega,kk,gm,hg,q1,hg1,bFi,if_false]
     rw [aO0 bFt q3]
     simp only [oo,own.frz (dU (fun _=>rfl) _),c,if_false]
  ·simp only [h0,kk,oo,if_true,not_false_eq_true,List.map_nil]
 ·have hr:fZ l=false:=by simpa using hr
  simp only [hr,kk,oo,if_true,List.map_nil]
end Go.Proofs.YtoaibmbldmckaaaGreat
end
section
namespace Go.AM
theorem aXf (n:Nat) (z:List V) (parts:List (Nat×V)) (fr:Option Nat) (S:St) (hn:n≤1000):aQ n z 2 parts fr S=(match sE n [z,z] parts with
  | .error e=>.error e
  | .ok elems=>match aK fr S (.row 0 n elems) with
   | .error e=>.error e
   | .ok (a,S')=>.ok (.sl a 0 n 0 2,S')):=by
 unfold aQ
 rw [if_pos (by omega)]
 rfl
theorem bFu (z:List V) (parts:List (Nat×V)) (fr:Option Nat) (S:St):type_of% (aXf 2 z parts fr S (by decide)):=aXf 2 z parts fr S (by decide)
theorem Own.bump {S0 S:St} {n:Nat} {v:V} {es:List (List V)} (h:Own S0 S n v es) (c:Nat):Own S0 ⟨S.next+c,S.heap⟩ n v es:=h.ext ((Ext.refl S).bump c)
theorem aQi {n b:Nat} {S:St} {v:V} {es:List (List V)} (h:Own E0 S n v es) (w:WF S) {cs:List (List V)} (hc:∀ c,c∈cs→c.length=n∧aN c=true) (hne:cs≠[]) (h1:(es.length+cs.length)*b≤35184372088832) (h2:es.length+cs.length<fK):
  ∃ v' S',dK n b v (.sl S.next 0 n 0 cs.length) none ⟨S.next+1,S.heap.put S.next (.row 0 n cs)⟩=.ok (v',S')∧Own E0 S' n v' (es++cs)∧WF S'∧∀ y,y<S.next→(∀ a ver m,v=.sl a ver n 0 m→y≠a)→S'.heap.get y=S.heap.get y:=by
 have x:Ext S ⟨S.next+1,S.heap.put S.next (.row 0 n cs)⟩:=Ext.new w _
 have hu:bV ⟨S.next+1,S.heap.put S.next (.row 0 n cs)⟩ (.sl S.next 0 n 0 cs.length)=.ok cs:=by
  have hb:Nat.ble (0+cs.length) cs.length=true:=Nat.ble_eq_true_of_le (by omega)
  simp only [bV,aS,hb,cond_true,List.drop_zero,List.take_length]
 obtain ⟨v',S',q1,q2,_,q3,q4⟩:=(h.ext x).pushK (b:=b) (aCv (x.wf w)) pS hu hc hne h1 h2
 refine ⟨v',S',q1,q3,q2.wf pS,fun y hy hya=>?_⟩
 rw [q4 y (by show y<S.next+1;omega) hya]
 exact Tr.get_put_neB _ _ _ _ trivial (by omega)
end Go.AM
namespace Go.Proofs.YtoaibmbldmckaaaGreat
open Go.AM Tryz
set_option linter.unusedVariables false
set_option linter.unusedSimpArgs false
set_option maxRecDepth 100000
def Total.enc (t:Total):List V:=[.int .i64 t.net,.int .i64 t.tax,.int .i64 t.gross,.imm (t.parts.map Part.enc)]
def aO1 (t:Total):Prop:=t.parts.length≤12∧∀ q∈t.parts,q.cat.length≤1000000
theorem aLz {P:Program} {t:TypeId} {a b:List UInt8} (h:a.length+b.length<2000000):aF P .add t (.str a) (.str b)=.ok (.str (a++b)):=by
 have:Nat.blt (a.length+b.length) fK=true:=by rw [Nat.blt_eq];unfold fK;omega
 simp only [aF,yG,this,cond_true]
theorem aQj (x:Bal):x.enc.length=2∧aN x.enc=true:=⟨rfl,rfl⟩
theorem aQk (x:Part):x.enc.length=4∧aN x.enc=true:=⟨rfl,rfl⟩
theorem bFv (t:Total) (hf:aO1 t) (S:St) (K:KW):C 157 [.agg [.int .i64 t.net,.int .i64 t.tax,.int .i64 t.gross,.imm (t.parts.map Part.enc)]] S K=K (.tup [.imm ((eI t).1.map Bal.enc),.int .i64 (eI t).2]) S:=by
 refine (bL3 rfl ?_).eq S K
 simp only [aTc,kk,bFh]
 have hpl:=hf.1
 refine aX t.parts (step:=rV) (fin:=fun l=>(l,0)) (fun i s vs S=>∃ v,vs=[.nils,.int .i64 0,v,.int .i64 (i:Int)]∧Own E0 S 2 v (s.map Bal.enc)∧WF S∧s.length=1+2*i) (fun r=>r=eI t) ?_ ?_ (s:=[⟨[111,119,101,100],t.gross⟩]) ⟨_,rfl,⟨.inr ⟨1,0,[],rfl,Nat.zero_le _,Nat.lt_succ_self 1,rfl⟩,?_⟩,kX (kX (m:=1) pS (by decide) (by decide)) (by decide) (by decide),rfl⟩ rfl
 ·rintro i p s vs S hi ⟨v,rfl,own,w,hsl⟩ aO H
  have hil:=(List.getElem?_eq_some_iff.1 hi).1
  have hcat:=hf.2 p (List.mem_of_getElem? hi)
  simp only [rV,kk] at H
  have e1:aNt.length+p.cat.length<2000000:=by simp only [aNt,List.length_cons,List.length_nil];omega
  have e2:aNu.length+p.cat.length<2000000:=by simp only [aNu,List.length_cons,List.length_nil];omega
  have c1:=aLz (P:=prog) (t:=9) e1
  have c2:=aLz (P:=prog) (t:=9) e2
  simp only [aNt,aNu] at c1 c2
  simp only [aFe,kk,dG hi,tW hi,Part.enc,mZ (show i<1000000000 by omega),bBc,gE,iQ,c1,c2,bFu]
  by_cases h1:(jV 0 p.net).2=0
  ·by_cases h2:(jV 0 p.tax).2=0
   ·simp only [h1,h2,kk,not_true_eq_false,if_false] at H ⊢
    have w1:WF ⟨S.next+1,(S.heap.put S.next (.row 0 4 [[V.str [],.int .i64 0,.int .i64 0,.int .i64 0]])).put S.next (.row 0 4 [p.enc])⟩:=kX (kX w (Nat.lt_succ_self _) (Nat.le_succ _)) (Nat.lt_succ_self _) (Nat.le_refl _)
    have x1:Ext S ⟨S.next+1,(S.heap.put S.next (.row 0 4 [[V.str [],.int .i64 0,.int .i64 0,.int .i64 0]])).put S.next (.row 0 4 [p.enc])⟩:=Ext.var w 4 _ _
    obtain ⟨v',S',q1,q2,q3,_⟩:=aQi (b:=24) (own.ext x1) w1 (cs:=[Bal.enc ⟨aNt++p.cat,(jV 0 p.net).1⟩,Bal.enc ⟨aNu++p.cat,(jV 0 p.tax).1⟩]) (fun c hc=>by
     rcases List.mem_cons.1 hc with rfl | hc
     ·exact aQj _
     ·rcases List.mem_cons.1 hc with rfl | hc
      ·exact aQj _
      ·cases hc) (by simp) (by simp;omega) (by simp [fK];omega)
    simp only [Part.enc,Bal.enc,aNt,aNu,kk] at q1
    simp only [q1,kk]
    exact H _ _ ⟨_,rfl,by rw [List.map_append];exact q2,q3,by rw [List.length_append,hsl];simp;omega⟩
   ·simp only [h1,h2,kk,not_true_eq_false,not_false_eq_true,if_false,if_true] at H ⊢
    simp only [oo,←H,List.map_nil]
  ·simp only [h1,kk,not_false_eq_true,if_true] at H ⊢
   simp only [oo,←H,List.map_nil]
 ·rintro s vs S ⟨v,rfl,own,w,_⟩ aO H
  have H':eI t=(s,0):=H.symm
  simp only [aFe,kk,Int.lt_irrefl,oo,own.frz (dU (fun _=>rfl) _),H']
 ·intro c hc;simp at hc;subst hc;exact ⟨rfl,rfl⟩
theorem bFw (l:List Bal) (hb:l.length<1000000):Fv 220 [.imm (l.map Bal.enc)] (.bool (aDo l)):=by
 refine bMg rfl ?_
 simp only [aUu]
 refine aX (l.drop 1) (step:=aBo) (fin:=fun _=>true) (fun j s vs S=>s=l[j]?∧vs=[.bool false,.int .i64 ((j+1:Nat):Int)]) (fun r=>V.bool r=.bool (aDo l)) ?_ ?_ (s:=l[0]?) ⟨rfl,rfl⟩ rfl
 ·rintro j b s vs S hi ⟨rfl,rfl⟩ aO H
  rw [List.getElem?_drop,Nat.add_comm] at hi
  have hil:=(List.getElem?_eq_some_iff.1 hi).1
  have hj:l[j]?=some l[j]:=List.getElem?_eq_getElem (by omega)
  simp only [hj,aBo,hi] at H
  simp only [aFv,kk,dG hi,aDt hi,aDt hj,Bal.enc,wrm (show j+1<1000000000 by omega),mZ (show j+1<1000000000 by omega)]
  cases c:fY l[j].acc b.acc<;>simp only [c,kk,if_true,if_false,Bool.false_eq_true] at H ⊢
  ·exact H
  ·exact H _ _ rfl
 ·rintro s vs S ⟨rfl,rfl⟩ aO H
  have hn:¬ (((l.drop 1).length+1:Nat):Int)<(l.length:Int):=by rw [List.length_drop];omega
  simp only [aFv,kk,hn]
  exact H
theorem bOl (l:List Bal) (hb:l.length<1000000) (S:St) (K:KW):C 220 [.imm (l.map Bal.enc)] S K=K (.bool (aDo l)) S:=(bFw l hb).eq S K
theorem bOm:apT prog 27=some (2,24):=by kernel_rfl
theorem bFx:uN 221=some (.spec ((Sp.ins 27).run prog)):=by kernel_rfl
theorem bBh (book l:List Bal) (hbb:book.length+l.length<1000000) (S:St) (K:KW):C 158 [.imm (book.map Bal.enc),.imm (l.map Bal.enc)] S K=K (.tup [.imm ((cZ book l).1.map Bal.enc),.int .i64 (cZ book l).2]) S:=by
 refine (bL4 rfl ?_).eq S K
 simp only [aTe,kk,bOl book (show book.length<1000000 by omega),cZ]
 by_cases hr:aDo book=true
 ·simp only [hr,kk,Bool.true_eq_false,if_false]
  obtain ⟨v0,S0,q0,x0,own0⟩:=aQf (b:=24) aQj book pS (by omega) (by unfold fK;omega)
  simp only [q0,kk]
  refine aX l (step:=dT) (fin:=fun l=>(l,0)) (fun i s vs S=>∃ v,vs=[.nils,.int .i64 0,v,.int .i64 (i:Int)]∧Own E0 S 2 v (s.map Bal.enc)∧WF S∧s.length≤book.length+i) (fun r=>r=aR dT (fun l=>(l,0)) l book) ?_ ?_ (s:=book) ⟨_,rfl,own0,x0.wf pS,Nat.le_refl _⟩ rfl
  ·rintro i x s vs S hi ⟨v,rfl,own,w,hsl⟩ aO H
   have hil:=(List.getElem?_eq_some_iff.1 hi).1
   rw [pE] at H
   simp only [aFg,kk,dG hi,aDt hi,Bal.enc]
   obtain ⟨S1,hS1⟩:∃ S1:St,S1=⟨S.next+1,(S.heap.put S.next (.row 0 2 [[V.str [],.int .i64 0]])).put S.next (.row 0 2 [[.str x.acc,.int .i64 x.amount]])⟩:=⟨_,rfl⟩
   have x1:Ext S S1:=by rw [hS1];exact Ext.var w 2 _ _
   have w1:=x1.wf w
   have hg1:aI S1 S.next 0=.ok (2,[x.enc]):=by rw [hS1];exact aS _ _ _ _ _ _
   have own1:=own.ext x1
   have hlt1:S.next<S1.next:=by rw [hS1];exact Nat.lt_succ_self _
   rw [←hS1]
   have hva:∀ a ver m,v=.sl a ver 2 0 m→S.next≠a:=by
    intro a ver m hv
    rcases own.is with ⟨rfl,_⟩ | ⟨a',ver',tl,rfl,_,hlt,_⟩
    ·cases hv
    ·cases hv;omega
   have hlen:s.length<1000000:=by omega
   have hple:=qR s x.acc
   have hj1:∀ (v':V) (S':St),Own E0 S' 2 v' ((eG s x.acc).map Bal.enc)→WF S'→aI S' S.next 0=.ok (2,[x.enc])→aAa C (fun v0 S0=>bX S0 v0=.ok (.tup [.imm ((aR dT (fun l=>(l,0)) l book).1.map Bal.enc),.int .i64 (aR dT (fun l=>(l,0)) l book).2])) aO .nils (.int .i64 0) v' (.ptr S.next 0 0 0) (.int .i64 (cC s x.acc:Int)) (.imm (l.map Bal.enc)) (.int .i64 (l.length:Int)) (.int .i64 (i:Int)) S':=by
    intro v' S' own' w' hg'
    obtain ⟨b,hb⟩:=yZ s x.acc
    obtain ⟨a,ver,_,_,_,e4,hat,set1⟩:=(own'.bump 13).setK (aCv (w'.bump 13)) pS (i:=cC s x.acc) (cs:=b.enc) (by simp [hb]) .i64
    obtain ⟨S2,st1,x2,n2,own2,keep2,w2⟩:=set1 1 1 (.int .i64 (cQ b.amount x.amount).1) rfl rfl (by decide)
    have hld:=hat.load none 1
    simp only [adv,kk,Bal.enc] at hld
    have hfin:((eG s x.acc).map Bal.enc).set (cC s x.acc) (splice b.enc 1 [.int .i64 (cQ b.amount x.amount).1])=((eG s x.acc).set (cC s x.acc) ⟨b.acc,(cQ b.amount x.amount).1⟩).map Bal.enc:=by rw [List.map_set];rfl
    simp only [V.cells] at own2
    rw [hfin] at own2
    simp only [hb,Option.map_some,Option.getD_some,kk] at H
    have hg2:aI ⟨S'.next+13,S'.heap⟩ S.next 0=.ok (2,[x.enc]):=hg'
    simp only [Bal.enc] at hg2
    simp only [aAa,e4,kk,hld,hg2,aQd,gE,mZ (show i<1000000000 by omega),st1]
    by_cases h0:(cQ b.amount x.amount).2=0
    ·simp only [h0,kk,not_true_eq_false,if_false] at H ⊢
     exact H _ _ ⟨_,rfl,own2,w2 (w'.bump 13),by rw [List.length_set];have:=zA s x.acc;omega⟩
    ·simp only [h0,kk,not_false_eq_true,if_true] at H ⊢
     simp only [oo,←H,List.map_nil]
   have hj2:∀ (S':St),Own E0 S' 2 v (s.map Bal.enc)→WF S'→aI S' S.next 0=.ok (2,[x.enc])→S.next<S'.next→vN C (fun v0 S0=>bX S0 v0=.ok (.tup [.imm ((aR dT (fun l=>(l,0)) l book).1.map Bal.enc),.int .i64 (aR dT (fun l=>(l,0)) l book).2])) aO .nils (.int .i64 0) v (.ptr S.next 0 0 0) (.int .i64 (cC s x.acc:Int)) (.imm (l.map Bal.enc)) (.int .i64 (l.length:Int)) (.int .i64 (i:Int)) (.bool (mY s x.acc)) S':=by
    intro S' own' w' hg' hlt'
    cases hm:mY s x.acc
    ·simp only [vN,kk]
     exact hj1 v S' (by rw [show eG s x.acc=s by simp [eG,hm]];exact own') w' hg'
    ·obtain ⟨v2,S2,q1,w2,own2,keep2⟩:=aY4 bOm (by decide) own' w' (aQj ⟨x.acc,0⟩) (by simp;omega) (by simp [fK];omega) (i:=cC s x.acc) (by simpa using hple)
     rw [←lS] at own2
     have hg2:=bI hg' (keep2 S.next hlt' hva)
     simp only [Bal.enc] at hg' q1
     simp only [vN,kk,hg',bFh]
     rw [aO0 bFx q1]
     exact hj1 v2 S2 (by rw [show eG s x.acc=fG s (cC s x.acc) ⟨x.acc,0⟩ by simp [eG,hm]];exact own2) w2 hg2
   have hj0:∀ (S':St),Own E0 S' 2 v (s.map Bal.enc)→WF S'→aI S' S.next 0=.ok (2,[x.enc])→S.next<S'.next→aAb C (fun v0 S0=>bX S0 v0=.ok (.tup [.imm ((aR dT (fun l=>(l,0)) l book).1.map Bal.enc),.int .i64 (aR dT (fun l=>(l,0)) l book).2])) aO .nils (.int .i64 0) v (.ptr S.next 0 0 0) (.int .i64 (cC s x.acc:Int)) (.imm (l.map Bal.enc)) (.int .i64 (l.length:Int)) (.int .i64 (i:Int)) S':=by
    intro S' own' w' hg' hlt'
    have h2:=hj2 ⟨S'.next+14,S'.heap⟩ (own'.bump 14) (w'.bump 14) hg' (by show S.next<S'.next+14;omega)
    have hgb:aI ⟨S'.next+14,S'.heap⟩ S.next 0=.ok (2,[x.enc]):=hg'
    simp only [Bal.enc] at hgb
    simp only [aAb,own'.sl.lenI,kk]
    by_cases hk:cC s x.acc=s.length
    ·have hm:mY s x.acc=true:=by unfold mY;rw [hk,List.getElem?_eq_none (Nat.le_refl _)]
     rw [hm] at h2
     simp only [hk,kk,eq_self,if_true]
     rw [hk] at h2
     exact h2
    ·have hlt:cC s x.acc<s.length:=by omega
     have hb:s[cC s x.acc]?=some s[cC s x.acc]:=List.getElem?_eq_getElem hlt
     have hm:mY s x.acc=!((s[cC s x.acc]).acc == x.acc):=by unfold mY;rw [hb]
     rw [hm] at h2
     obtain ⟨p,hp,hat,_,_⟩:=(own'.bump 14).sl.elem hb
     have hld:=hat.load none 0
     simp only [Bal.enc,kk] at hld
     simp only [show ¬ ((cC s x.acc:Nat):Int)=(s.length:Int) by omega,kk,if_false,hp,hat.advW,hld,hgb]
     exact h2
   refine aX s (step:=eP (fun b:Bal=>fY b.acc x.acc)) (fin:=id) (fun k n vs S'=>n=k∧vs=[.int .i64 (k:Int)]∧S'.heap=S1.heap∧S1.next≤S'.next) (fun r=>r=cC s x.acc) ?_ ?_ ⟨rfl,rfl,rfl,Nat.le_refl _⟩ rfl
   ·rintro k b n vs S' hk ⟨rfl,rfl,hh,hn⟩ again' H'
    have hkl:=(List.getElem?_eq_some_iff.1 hk).1
    have hown:∀ c,Own E0 ⟨S'.next+c,S'.heap⟩ 2 v (s.map Bal.enc):=fun c=>own1.same (by show S1.next≤S'.next+c;omega) (fun a _=>by show S'.heap.get a=_;rw [hh])
    have hw:∀ c,WF ⟨S'.next+c,S'.heap⟩:=fun c a b hb=>by
     have hb:S'.heap.get a=some b:=hb
     rw [hh] at hb;have:=w1 a b hb;show a<S'.next+c;omega
    have hgr:∀ c,aI ⟨S'.next+c,S'.heap⟩ S.next 0=.ok (2,[x.enc]):=fun c=>by
     show aI ⟨S'.next,S'.heap⟩ S.next 0=_
     rw [hh];exact hg1
    have hgb:=hgr 14
    simp only [Bal.enc] at hgb
    obtain ⟨p,hp,hat,_,_⟩:=(hown 14).sl.elem hk
    have hld:=hat.load none 0
    simp only [Bal.enc,kk] at hld
    simp only [eP] at H'
    simp only [aFf,kk,own1.sl.lenI,dG hk,hp,hat.advW,hld,hgb,mZ (show n<1000000000 by omega)]
    cases c:fY b.acc x.acc<;>simp only [c,kk,if_true,if_false,Bool.false_eq_true] at H' ⊢
    ·have:=hj0 ⟨S'.next+14,S'.heap⟩ (hown 14) (hw 14) (hgr 14) (by show S.next<S'.next+14;omega)
     rw [←H'] at this
     exact this
    ·exact H' _ _ ⟨rfl,hh,by show S1.next≤S'.next+14;omega⟩
   ·rintro n vs S' ⟨rfl,rfl,hh,hn⟩ again' H'
    have hown:∀ c,Own E0 ⟨S'.next+c,S'.heap⟩ 2 v (s.map Bal.enc):=fun c=>own1.same (by show S1.next≤S'.next+c;omega) (fun a _=>by show S'.heap.get a=_;rw [hh])
    have hw:∀ c,WF ⟨S'.next+c,S'.heap⟩:=fun c a b hb=>by
     have hb:S'.heap.get a=some b:=hb
     rw [hh] at hb;have:=w1 a b hb;show a<S'.next+c;omega
    have hgr:∀ c,aI ⟨S'.next+c,S'.heap⟩ S.next 0=.ok (2,[x.enc]):=fun c=>by
     show aI ⟨S'.next,S'.heap⟩ S.next 0=_
     rw [hh];exact hg1
    have H':s.length=cC s x.acc:=H'
    simp only [aFf,kk,own1.sl.lenI,Int.lt_irrefl]
    have:=hj0 ⟨S'.next+14,S'.heap⟩ (hown 14) (hw 14) (hgr 14) (by show S.next<S'.next+14;omega)
    rw [←H'] at this
    exact this
  ·rintro s vs S ⟨v,rfl,own,w,_⟩ aO H
   have H':aR dT (fun l=>(l,0)) l book=(s,0):=H.symm
   simp only [aFg,kk,Int.lt_irrefl,oo,own.frz (dU (fun _=>rfl) _),H']
 ·have hr:aDo book=false:=by simpa using hr
  simp only [hr,kk,oo,if_true,List.map_nil]
end Go.Proofs.YtoaibmbldmckaaaGreat
end
section
namespace Go.Proofs.YtoaibmbldmckaaaGreat
open Go.AM Tryz
theorem bOn (tab:List Rate) (d:Date) (l:Line) (S:St) (K:KW):C 268 [.imm (tab.map Rate.enc),.agg [.int .i64 d.y,.int .i64 d.m,.int .i64 d.d],.agg [.str l.text,.str l.cat,.int .i64 l.count,.int .i64 l.price]] S K=K (aQ9 (fH tab d l)) S:=by
 refine (bNb rfl ?_).eq S K
 simp only [aVp,aG5,kk,iQ,aQe,bOi,bNy,fH,aQ9,gE]
 by_cases c1:64<l.text.length
 ·simp only [c1,show (64:Int)<(l.text.length:Int) by omega,kk,oo,if_true]
 simp only [c1,show ¬ (64:Int)<(l.text.length:Int) by omega,kk,if_false]
 cases c2:eN l.cat
 ·simp only [c2,kk,oo,if_true]
 simp only [c2,kk,Bool.true_eq_false,if_false]
 by_cases c3:l.count<1
 ·simp only [c3,kk,oo,true_or,if_true]
 by_cases c4:1048576<l.count
 ·simp only [c3,c4,kk,oo,or_true,if_true,if_false]
 simp only [c3,c4,kk,if_false,or_self]
 cases c5:(iD tab l.cat d).2
 ·simp only [c5,kk,oo,if_true]
 ·simp only [c5,kk,oo,Bool.true_eq_false,if_false]
theorem bOo:apT prog 80=some (4,40):=by kernel_rfl
theorem bFy:uN 280=some (.spec ((Sp.ins 80).run prog)):=by kernel_rfl
theorem bOp {P:Program} {T:TypeId} {n b:Nat} (hT:apT P T=some (n,b)) (hn:1<n) {S0 S:St} {v:V} {es:List (List V)} (h:Own S0 S n v es) (x:Ext S0 S) (w:WF S0) {c:List V} (hc:c.length=n∧aN c=true) (h1:(es.length+1)*b≤35184372088832) (h2:es.length+1<fK) {i:Nat} (hi:i≤es.length):
  ∃ v' S',gD P T v (.int .i64 (i:Int)) (.sl S.next 0 n 0 1) ⟨S.next+1,S.heap.put S.next (.row 0 n [c])⟩=.ok (v',S')∧Ext S0 S'∧Own S0 S' n v' (es.take i++c::es.drop i):=by
 have x1:Ext S ⟨S.next+1,S.heap.put S.next (.row 0 n [c])⟩:=Ext.new (x.wf w) _
 obtain ⟨v',S',q1,q2,q3,_⟩:=(h.ext x1).insertK hT hn (x.trans x1) w (bx:=S.next) (c:=c) (aS _ _ _ _ _ _) (fun a ver m hv=>by
  rcases h.is with ⟨rfl,_⟩ | ⟨a',ver',tl,rfl,_,hlt,_⟩
  ·cases hv
  ·cases hv;omega) hc h1 h2 hi
 exact ⟨v',S',q1,q2,q3⟩
theorem bOq {S0 S:St} {v:V} {l:List Part} (own:Own S0 S 4 v (l.map Part.enc)) (x:Ext S0 S) (w:WF S0) (hl:l.length≤1000) (cat:List UInt8) (bp n:Int) {K:KW} (H:∀ v' S',Ext S0 S'→Own S0 S' 4 v' ((pX l cat bp n).1.map Part.enc)→K (.tup [v',.int .i64 (pX l cat bp n).2]) S'):C 269 [v,.str cat,.int .i64 bp,.int .i64 n] S K:=by
 refine bNd ?_
 simp only [aVr]
 have hple:=pF l cat
 have hlen:lenW v=.ok (.int .i64 (l.length:Int)):=own.sl.lenI
 have hj1:∀ (v':V) (S':St),Ext S0 S'→Own S0 S' 4 v' ((dS l cat bp).map Part.enc)→aAf C K v' (.int .i64 n) (.int .i64 (bS l cat:Int)) S':=by
  intro v' S' x' own'
  obtain ⟨b,hb⟩:=pG l cat bp
  obtain ⟨a,ver,_,_,_,e4,hat,set1⟩:=own'.setK x' w (i:=bS l cat) (cs:=b.enc) (by simp [hb]) .i64
  obtain ⟨S2,st1,x2,n2,own2,keep2,w2⟩:=set1 2 1 (.int .i64 (cQ b.net n).1) rfl rfl (by decide)
  have hld:=hat.load none 2
  simp only [adv,kk,Part.enc] at hld
  have hfin:((dS l cat bp).map Part.enc).set (bS l cat) (splice b.enc 2 [.int .i64 (cQ b.net n).1])=((dS l cat bp).set (bS l cat) { b with net:=(cQ b.net n).1 }).map Part.enc:=by rw [List.map_set];rfl
  simp only [V.cells] at own2
  rw [hfin] at own2
  have hput:pX l cat bp n=((dS l cat bp).set (bS l cat) { b with net:=(cQ b.net n).1 },(cQ b.net n).2):=by simp only [pX,hb]
  simp only [aAf,e4,kk,hld,aQd,gE,st1]
  have:=H v' S2 x2 (by rw [hput];exact own2)
  rw [hput] at this
  exact this
 have hj2:vQ C K v (.str cat) (.int .i64 bp) (.int .i64 n) (.int .i64 (bS l cat:Int)) (.bool (jC l cat)) S:=by
  cases hm:jC l cat
  ·simp only [vQ,kk,Bool.false_eq_true,if_false]
   exact hj1 v S x (by rw [show dS l cat bp=l by simp [dS,hm]];exact own)
  ·obtain ⟨v2,S2,q1,x2,own2⟩:=bOp bOo (by decide) own x w (aQk ⟨cat,bp,0,0⟩) (by simp;omega) (by simp [fK];omega) (i:=bS l cat) (by simpa using hple)
   rw [←lS] at own2
   simp only [Part.enc] at q1
   simp only [vQ,kk,if_true,aQg]
   rw [aO0 bFy q1]
   exact hj1 v2 S2 x2 (by rw [show dS l cat bp=fG l (bS l cat) ⟨cat,bp,0,0⟩ by simp [dS,hm]];exact own2)
 have hj0:aAg C K v (.str cat) (.int .i64 bp) (.int .i64 n) (.int .i64 (bS l cat:Int)) S:=by
  simp only [aAg,kk,hlen]
  by_cases hk:bS l cat=l.length
  ·have hm:jC l cat=true:=by unfold jC;rw [hk,List.getElem?_eq_none (Nat.le_refl _)]
   rw [hm] at hj2
   rw [hk] at hj2
   simp only [hk,kk,if_true]
   exact hj2
  ·have hlt:bS l cat<l.length:=by omega
   have hb:l[bS l cat]?=some l[bS l cat]:=List.getElem?_eq_getElem hlt
   have hm:jC l cat=!((l[bS l cat]).cat == cat):=by unfold jC;rw [hb]
   rw [hm] at hj2
   obtain ⟨p,hp,hat,_,_⟩:=own.sl.elem hb
   have hld:=hat.load none 0
   simp only [Part.enc,kk] at hld
   simp only [show ¬ ((bS l cat:Nat):Int)=(l.length:Int) by omega,kk,if_false,hp,hat.advW,hld]
   exact hj2
 refine aX l (step:=eP (fun b:Part=>fY b.cat cat)) (fin:=id) (fun k n vs S'=>n=k∧vs=[.int .i64 (k:Int)]∧S'=S) (fun r=>r=bS l cat) ?_ ?_ ⟨rfl,rfl,rfl⟩ rfl
 ·rintro k b m vs S' hk ⟨rfl,rfl,rfl⟩ again' H'
  have hkl:=(List.getElem?_eq_some_iff.1 hk).1
  obtain ⟨p,hp,hat,_,_⟩:=own.sl.elem hk
  have hld:=hat.load none 0
  simp only [Part.enc,kk] at hld
  simp only [eP] at H'
  simp only [aG6,kk,hlen,dG hk,hp,hat.advW,hld,mZ (show m<1000000000 by omega)]
  cases c:fY b.cat cat<;>simp only [c,kk,if_true,if_false,Bool.false_eq_true] at H' ⊢
  ·rw [←H'] at hj0
   exact hj0
  ·exact H' _ _ ⟨rfl,rfl⟩
 ·rintro m vs S' ⟨rfl,rfl,rfl⟩ again' H'
  have H':l.length=bS l cat:=H'
  simp only [aG6,kk,hlen,Int.lt_irrefl,if_false]
  rw [←H'] at hj0
  exact hj0
end Go.Proofs.YtoaibmbldmckaaaGreat
end
section
namespace Go.AM
theorem Own.one {S0 S:St} {n:Nat} {v:V} {es:List (List V)} (h:Own S0 S n v es):v.one=true:=by
 rcases h.is with ⟨rfl,_⟩ | ⟨a,ver,tl,rfl,_⟩<;>rfl
theorem Own.cells {S0 S:St} {n:Nat} {v:V} {es:List (List V)} (h:Own S0 S n v es):v.cells=[v]:=by
 rcases h.is with ⟨rfl,_⟩ | ⟨a,ver,tl,rfl,_⟩<;>rfl
theorem Own.lt {S0 S:St} {n:Nat} {v:V} {es:List (List V)} (h:Own S0 S n v es):∀ a ver m,v=.sl a ver n 0 m→a<S.next:=by
 intro a ver m hv
 rcases h.is with ⟨rfl,_⟩ | ⟨a',ver',tl,rfl,_,hlt,_⟩
 ·cases hv
 ·cases hv;exact hlt
theorem Own.ld {S0 S:St} {n:Nat} {v:V} {es:List (List V)} (h:Own S0 S n v es) {a ver m:Nat} (hv:v=.sl a ver n 0 m) {i:Nat} {cs:List V} (hi:es[i]?=some cs) (k:Option Nat) (j:Nat):bB k (.ptr a ver i j) S=gO k cs j:=by
 rcases h.is with ⟨rfl,rfl⟩ | ⟨a',ver',tl,rfl,q1,q2,q3⟩
 ·simp at hi
 ·cases hv
  have hil:=(List.getElem?_eq_some_iff.1 hi).1
  have hg:(es++tl)[i]?=some cs:=by rw [List.getElem?_append_left hil];exact hi
  simp only [ldP,fO q3,hg]
theorem Own.put {S0 S:St} {n:Nat} {v:V} {es:List (List V)} (h:Own S0 S n v es) {k m:Nat} {b:Blk} (hm:S.next≤m) (hk:∀ a ver m,v=.sl a ver n 0 m→k≠a):Own S0 ⟨m,S.heap.put k b⟩ n v es:=
 h.other hm fun a ver m hv=>Tr.get_put_neB _ _ _ _ trivial (Ne.symm (hk a ver m hv))
theorem Ext.put {S S':St} (h:Ext S S') {a m:Nat} (ha:S.next≤a) (hb:a<m) (hm:S'.next≤m) (w:WF S) (b:Blk):Ext S ⟨m,S'.heap.put a b⟩:=
 ⟨fun y c hy=>by
  show (S'.heap.put a b).get y=some c
  have:=w y c hy
  rw [Tr.get_put_neB _ _ _ _ trivial (by omega)];exact h.old y c hy,Nat.le_trans h.next hm,fun ww=>kX (h.wf ww) hb hm⟩
end Go.AM
namespace Go.Proofs.YtoaibmbldmckaaaGreat
open Go.AM Tryz
set_option linter.unusedVariables false
set_option linter.unusedSimpArgs false
set_option maxRecDepth 100000
theorem bOr {S0 S:St} {v:V} {l:List Part} (own:Own S0 S 4 v (l.map Part.enc)) (x:Ext S0 S) (w:WF S0) (hl:l.length≤1000) {K:KW}
  (H:∀ v' S',Ext S0 S'→Own S0 S' 4 v' ((eX l).1.parts.map Part.enc)→K (.tup [.agg [.int .i64 (eX l).1.net,.int .i64 (eX l).1.tax,.int .i64 (eX l).1.gross,v'],.int .i64 (eX l).2]) S'):C 270 [v] S K:=by
 refine bNf ?_
 have hlen:lenW v=.ok (.int .i64 (l.length:Int)):=own.sl.lenI
 have h1:=own.one
 have hlt:=own.lt
 have h2:=own.cells
 simp only [aVt,kk,h1,h2,hlen]
 have hn:=x.next
 refine aX l (step:=fX) (fin:=kQ) (fun i s vs S'=>vs=[.int .i64 0,.int .i64 (i:Int)]∧Ext S0 S'∧Own S0 S' 4 v ((s.2.2++l.drop i).map Part.enc)∧s.2.2.length=i∧S.next+2≤S'.next∧aI S' S.next 0=.ok (4,[[.int .i64 0,.int .i64 0,.int .i64 0,.nils]])∧aI S' (S.next+1) 0=.ok (4,[[.int .i64 s.1,.int .i64 s.2.1,.int .i64 0,v]])) (fun r=>r=eX l) ?_ ?_ (s:=(0,0,[])) ⟨rfl,?_,?_,rfl,?_,?_,?_⟩ rfl
 ·rintro i p ⟨net,tax,done⟩ vs S' hi ⟨rfl,x',own',hd,hn',hg0,hg1⟩ aO Hq
  have hil:=(List.getElem?_eq_some_iff.1 hi).1
  obtain ⟨a,ver,hv,ha,hb,e4,hat,set1⟩:=(own'.bump 17).setK (x'.bump 17) w (i:=i) (cs:=p.enc) (by
   rw [List.getElem?_map,List.getElem?_append_right (by omega),hd,Nat.sub_self,List.getElem?_drop,Nat.add_zero,hi];rfl) .i64
  obtain ⟨S2,st1,x2,n2,own2,keep2,w2⟩:=set1 3 1 (.int .i64 (cG p.net p.bp).1) rfl rfl (by decide)
  have hav:=hlt a ver _ hv
  have hld2:=hat.load none 2
  have hld1:=hat.load none 1
  simp only [adv,kk,Part.enc] at hld1 hld2
  have hne0:a≠S.next:=by omega
  have hne1:a≠S.next+1:=by omega
  have k0:=bI (S:=⟨S'.next+17,S'.heap⟩) hg0 (keep2 S.next (Ne.symm hne0))
  have k1:=bI (S:=⟨S'.next+17,S'.heap⟩) hg1 (keep2 (S.next+1) (Ne.symm hne1))
  have hes:((done++l.drop i).map Part.enc).set i (splice p.enc 3 [.int .i64 (cG p.net p.bp).1])=((done++[{ p with tax:=(cG p.net p.bp).1 }])++l.drop (i+1)).map Part.enc:=by
   have hd':done.length=i:=hd
   rw [List.drop_eq_getElem_cons hil,(List.getElem?_eq_some_iff.1 hi).2]
   simp only [List.map_append,List.map_cons,List.map_nil,List.append_assoc,List.singleton_append]
   rw [List.set_append_right _ _ (by simp;omega)]
   simp only [List.length_map,hd',Nat.sub_self,List.set_cons_zero]
   rfl
  simp only [V.cells] at own2
  rw [hes] at own2
  have hi2:(((done++[{ p with tax:=(cG p.net p.bp).1 }])++l.drop (i+1)).map Part.enc)[i]?=some (Part.enc { p with tax:=(cG p.net p.bp).1 }):=by
   have hd':done.length=i:=hd
   rw [List.getElem?_map,List.getElem?_append_left (by simp;omega),List.getElem?_append_right (by omega),hd',Nat.sub_self];rfl
  have ow3:∀ (m:Nat) (b:Blk),S2.next≤m→Own S0 ⟨m,S2.heap.put (S.next+1) b⟩ 4 v (((done++[{ p with tax:=(cG p.net p.bp).1 }])++l.drop (i+1)).map Part.enc):=fun m b hm=>own2.put hm fun a ver m hv=>by have:=hlt a ver m hv;omega
  have ld3:∀ (m:Nat) (b:Blk) (k:Option Nat) (j:Nat),S2.next≤m→bB k (.ptr a ver i j) ⟨m,S2.heap.put (S.next+1) b⟩=gO k (Part.enc { p with tax:=(cG p.net p.bp).1 }) j:=fun m b k j hm=>(ow3 m b hm).ld hv hi2 k j
  have ld2:∀ k j,bB k (.ptr a ver i j) ⟨S2.next+13,S2.heap⟩=gO k (Part.enc { p with tax:=(cG p.net p.bp).1 }) j:=fun k j=>(own2.bump 13).ld hv hi2 k j
  have l2:=ld2 none 2
  have l3:=fun m b hm=>ld3 m b none 3 hm
  simp only [fX] at Hq
  simp only [kk,Part.enc] at l2 l3
  have hn2:S2.next=S'.next+17:=n2
  have g0:∀ (m:Nat) (b:Blk),aI ⟨m,S2.heap.put (S.next+1) b⟩ S.next 0=.ok (4,[[V.int IntKind.i64 0,V.int IntKind.i64 0,V.int IntKind.i64 0,V.nils]]):=fun m b=>by
   rw [cY _ S2.next _ _ _ _ _ (by omega)];exact k0
  have x3:∀ (m:Nat) (b:Blk),S2.next≤m→Ext S0 ⟨m,S2.heap.put (S.next+1) b⟩:=fun m b hm=>x2.put (by omega) (by omega) hm w b
  simp only [aG7,kk,dG hi,e4,hld1,hld2,bFb,aQd,gE,st1,mZ (show i<1000000000 by omega),gm,k1,l2,l3 _ _ (show S2.next≤S2.next+13+13 by omega)]
  obtain ⟨S9,hS9⟩:∃ S9:St,S9=⟨S2.next+13+13,(S2.heap.put (S.next+1) (Blk.row 0 4 [[V.int IntKind.i64 (cQ net p.net).1,V.int IntKind.i64 tax,V.int IntKind.i64 0,v]])).put (S.next+1) (Blk.row 0 4 [[V.int IntKind.i64 (cQ net p.net).1,V.int IntKind.i64 (cQ tax (cG p.net p.bp).1).1,V.int IntKind.i64 0,v]])⟩:=⟨_,rfl⟩
  have x9:Ext S0 S9:=by rw [hS9];exact (x3 S2.next _ (Nat.le_refl _)).put (by omega) (by omega) (show S2.next≤S2.next+13+13 by omega) w _
  have o9:Own S0 S9 4 v (((done++[{ p with tax:=(cG p.net p.bp).1 }])++l.drop (i+1)).map Part.enc):=by rw [hS9];exact (ow3 S2.next _ (Nat.le_refl _)).put (show S2.next≤S2.next+13+13 by omega) fun a ver m hv=>by have:=hlt a ver m hv;omega
  have r9:aI S9 S.next 0=.ok (4,[[V.int IntKind.i64 0,V.int IntKind.i64 0,V.int IntKind.i64 0,V.nils]]):=by rw [hS9,cY _ S2.next _ _ _ _ _ (by omega)];exact g0 _ _
  have q9:aI S9 (S.next+1) 0=.ok (4,[[V.int IntKind.i64 (cQ net p.net).1,V.int IntKind.i64 (cQ tax (cG p.net p.bp).1).1,V.int IntKind.i64 0,v]]):=by rw [hS9];exact aS _ _ _ _ _ _
  have n9:S.next+2≤S9.next:=by rw [hS9];show _≤S2.next+13+13;omega
  rw [←hS9]
  have fail:eX l=(Total.zero,7)→rT C K aO v (V.ptr S.next 0 0 0) (V.int IntKind.i64 0) (V.ptr (S.next+1) 0 0 0) (V.int IntKind.i64 ↑l.length) (V.int IntKind.i64 ↑i) (V.bool true) S9:=by
   intro he
   have:=H .nils ⟨S9.next,S9.heap.put S.next (.row 0 4 [[.int .i64 0,.int .i64 0,.int .i64 0,.nils]])⟩ (x9.put hn (by omega) (Nat.le_refl _) w _) (by rw [he];exact Own.nil _ _ _)
   simp only [he,Total.zero] at this
   simp only [rT,kk,r9]
   exact this
  by_cases c1:(cG p.net p.bp).2=0
  ·by_cases c2:(cQ net p.net).2=0
   ·simp only [c1,c2,kk,not_true_eq_false,not_false_eq_true,false_or,if_false,if_true] at Hq ⊢
    by_cases c3:(cQ tax (cG p.net p.bp).1).2=0
    ·simp only [c3,kk,not_true_eq_false,if_false] at Hq ⊢
     simp only [rT,kk,mZ (show i<1000000000 by omega),decide_true,decide_false,Bool.false_eq_true,if_false]
     exact Hq _ _ ⟨rfl,x9,o9,by have hd':done.length=i:=hd;simp;omega,n9,r9,q9⟩
    ·simp only [c3,kk,not_false_eq_true,if_true,decide_false] at Hq ⊢
     exact fail Hq.symm
   ·simp only [c1,c2,kk,not_true_eq_false,not_false_eq_true,false_or,true_or,if_false,if_true] at Hq ⊢
    exact fail Hq.symm
  ·simp only [c1,kk,not_false_eq_true,true_or,if_true] at Hq ⊢
   exact fail Hq.symm
 ·rintro ⟨net,tax,done⟩ vs S' ⟨rfl,x',own',hd,hn',hg0,hg1⟩ aO Hq
  rw [List.drop_length,List.append_nil] at own'
  simp only [kQ] at Hq
  simp only [aG7,kk,Int.lt_irrefl,if_false,hg1,aQd,gE]
  by_cases c:(cQ net tax).2=0
  ·simp only [c,kk,not_true_eq_false,if_false] at Hq ⊢
   have hb:∀ (k:Nat) (b:Blk),aI ⟨S'.next,S'.heap.put (S.next+1) b⟩ S.next 0=.ok (4,[[V.int IntKind.i64 0,V.int IntKind.i64 0,V.int IntKind.i64 0,V.nils]]):=fun k b=>by rw [cY _ S'.next _ _ _ _ _ (by omega)];exact hg0
   simp only [hb 0,kk,h1,h2,gm]
   have x1:=x'.put (a:=S.next+1) (m:=S'.next) (by omega) (by omega) (Nat.le_refl _) w (.row 0 4 [[.int .i64 net,.int .i64 tax,.int .i64 (cQ net tax).1,v]])
   have o1:=own'.put (k:=S.next+1) (m:=S'.next) (b:=.row 0 4 [[.int .i64 net,.int .i64 tax,.int .i64 (cQ net tax).1,v]]) (Nat.le_refl _) fun a ver m hv=>by have:=hlt a ver m hv;omega
   have:=H v _ (x1.put (a:=S.next) (m:=S'.next) hn (by omega) (Nat.le_refl _) w (.row 0 4 [[.int .i64 net,.int .i64 tax,.int .i64 (cQ net tax).1,v]])) (by rw [←Hq];exact o1.put (Nat.le_refl _) fun a ver m hv=>by have:=hlt a ver m hv;omega)
   rw [←Hq] at this
   exact this
  ·simp only [c,kk,not_false_eq_true,if_true] at Hq ⊢
   simp only [hg0,kk]
   have:=H .nils ⟨S'.next,S'.heap.put S.next (.row 0 4 [[.int .i64 0,.int .i64 0,.int .i64 0,.nils]])⟩ (x'.put hn (by omega) (Nat.le_refl _) w _) (by rw [←Hq];exact Own.nil _ _ _)
   rw [←Hq] at this
   exact this
 ·exact ((x.put (m:=S.next+1+1) hn (by omega) (by omega) w _).put (m:=S.next+1+1) (by omega) (by omega) (Nat.le_refl _) w _).put (m:=S.next+1+1) (by omega) (by omega) (Nat.le_refl _) w _
 ·rw [List.nil_append,List.drop_zero]
  have nn:∀ k,S.next≤k→∀ a ver m,v=.sl a ver 4 0 m→k≠a:=fun k hk a ver m hv=>by have:=hlt a ver m hv;omega
  exact ((own.put (m:=S.next+1+1) (by omega) (nn _ (Nat.le_refl _))).put (Nat.le_refl _) (nn _ (by omega))).put (Nat.le_refl _) (nn _ (by omega))
 ·exact Nat.le_refl _
 ·rw [cY _ S.next _ _ _ _ _ (by omega),cY _ S.next _ _ _ _ _ (by omega)];exact aS _ _ _ _ _ _
 ·exact aS _ _ _ _ _ _
end Go.Proofs.YtoaibmbldmckaaaGreat
end
section
namespace Go.AM
theorem Own.out {S0 S:St} {n:Nat} {v:V} {α:Type} {enc:α→List V} {l:List α} (h:Own S0 S n v (l.map enc)) (hc:∀ x,cloVs (enc x)=true):dP mL (pV (lA S 3) S) v=.ok (.imm (l.map enc)):=h.frz (dU hc _)
end Go.AM
namespace Go.Proofs.YtoaibmbldmckaaaGreat
open Go.AM Tryz
set_option linter.unusedVariables false
set_option linter.unusedSimpArgs false
set_option maxRecDepth 100000
def aKk (r:Total×Int):V:=.tup [.agg [.int .i64 r.1.net,.int .i64 r.1.tax,.int .i64 r.1.gross,.imm (r.1.parts.map Part.enc)],.int .i64 r.2]
theorem bOs (tab:List Rate) (d:Date) (lines:List Line) (hll:lines.length<1000000) (S:St) (K:KW):C 238 [.imm (tab.map Rate.enc),.agg [.int .i64 d.y,.int .i64 d.m,.int .i64 d.d],.imm (lines.map Line.enc)] S K=K (aKk (dL tab d lines)) S:=by
 refine (bMz rfl ?_).eq S K
 simp only [aVd,kk,iQ,g85,zZ,dL,aKk]
 cases h1:fZ tab
 ·simp only [h1,kk,oo,if_true,Total.zero,List.map_nil]
 cases h2:d.right
 ·simp only [h1,h2,kk,iQ,oo,if_true,Bool.true_eq_false,if_false,Total.zero,List.map_nil]
 simp only [h1,h2,kk,Bool.true_eq_false,if_false,iQ,zZ]
 by_cases h3:lines.length=0
 ·simp only [h3,kk,iQ,oo,show ((0:Nat):Int)=0 from rfl,if_true,Total.zero,List.map_nil]
 by_cases h4:12<lines.length
 ·simp only [h3,h4,kk,iQ,oo,show ¬ (lines.length:Int)=0 by omega,show (12:Int)<(lines.length:Int) by omega,if_true,if_false,Total.zero,List.map_nil]
 simp only [h3,h4,kk,iQ,show ¬ (lines.length:Int)=0 by omega,show ¬ (12:Int)<(lines.length:Int) by omega,if_false]
 obtain ⟨S0,hS0⟩:∃ S0:St,S0=⟨1+1,(Tr.nil.put 0 (.row 0 3 [d.enc])).put 1 (.row 0 4 [[.int .i64 0,.int .i64 0,.int .i64 0,.nils]])⟩:=⟨_,rfl⟩
 have w0:WF S0:=by rw [hS0];exact kX (n:=1) (kX pS (by decide) (by decide)) (by decide) (by decide)
 have a0:aI S0 0 0=.ok (3,[d.enc]):=by rw [hS0];rfl
 have a1:aI S0 1 0=.ok (4,[[.int .i64 0,.int .i64 0,.int .i64 0,.nils]]):=by rw [hS0];rfl
 have n0:S0.next=2:=by rw [hS0]
 simp only [Date.enc] at a0
 refine aX lines (step:=iF tab d) (fin:=eX) (fun i s vs S=>∃ v,vs=[.int .i64 0,v,.int .i64 (i:Int)]∧Own S0 S 4 v (s.map Part.enc)∧Ext S0 S∧s.length≤i) (fun r=>r=aR (iF tab d) eX lines []) ?_ ?_ (s:=[]) ⟨_,rfl,Own.nil _ _ _,by rw [hS0];exact Ext.refl _,Nat.le_refl _⟩ rfl
 ·rintro i l s vs S hi ⟨v,rfl,own,x,hsl⟩ aO H
  have hil:=(List.getElem?_eq_some_iff.1 hi).1
  simp only [iF] at H
  have hn:=x.next
  have b0:=x.row a0
  have b1:=x.row a1
  have z0:((0:Nat)=S.next)=False:=by simp;omega
  have z1:((1:Nat)=S.next)=False:=by simp;omega
  have x1:Ext S0 ⟨S.next+1,(S.heap.put S.next (.row 0 4 [[.str [],.str [],.int .i64 0,.int .i64 0]])).put S.next (.row 0 4 [l.enc])⟩:=(x.put (m:=S.next+1) hn (by omega) (by omega) w0 _).put (m:=S.next+1) hn (by omega) (Nat.le_refl _) w0 _
  have nn:∀ a ver m,v=.sl a ver 4 0 m→S.next≠a:=fun a ver m hv=>by have:=own.lt a ver m hv;omega
  have o1:Own S0 ⟨S.next+1,(S.heap.put S.next (.row 0 4 [[.str [],.str [],.int .i64 0,.int .i64 0]])).put S.next (.row 0 4 [l.enc])⟩ 4 v (s.map Part.enc):=(own.put (m:=S.next+1) (by omega) nn).put (m:=S.next+1) (Nat.le_refl _) nn
  simp only [Line.enc] at x1 o1
  simp only [aG0,kk,dG hi,bBa hi,Line.enc,iQ,z0,z1,gm,b0,b1,bOn,aQ9]
  by_cases c1:(fH tab d l).2.2=0
  ·simp only [c1,kk,not_true_eq_false,if_false] at H ⊢
   refine bOq o1 x1 w0 (by omega) l.cat _ _ fun v' S' x' own'=>?_
   have b1':=x'.row a1
   by_cases c2:(pX s l.cat (fH tab d l).1 (fH tab d l).2.1).2=0
   ·simp only [c2,kk,not_true_eq_false,if_false,mZ (show i<1000000000 by omega)] at H ⊢
    exact H _ _ ⟨v',rfl,own',x',by have:=aI2 s l.cat (fH tab d l).1 (fH tab d l).2.1;omega⟩
   ·simp only [c2,kk,b1',not_false_eq_true,if_true] at H ⊢
    simp only [oo,←H,Total.zero,List.map_nil]
  ·simp only [c1,kk,not_false_eq_true,if_true] at H ⊢
   simp only [oo,←H,Total.zero,List.map_nil]
 ·rintro s vs S ⟨v,rfl,own,x,hsl⟩ aO H
  simp only [aG0,kk,Int.lt_irrefl,if_false]
  refine bOr own x w0 (by omega) fun v' S' x' own'=>?_
  have b1':=x'.row a1
  have H':eX s=aR (iF tab d) eX lines []:=H
  simp only [kk,own'.one,own'.cells,b1',←H']
  have:=(own'.put (m:=S'.next) (k:=1) (b:=.row 0 4 [[.int .i64 (eX s).1.net,.int .i64 (eX s).1.tax,.int .i64 (eX s).1.gross,v']]) (Nat.le_refl _) fun a ver m hv=>by
   rcases own'.is with ⟨rfl,_⟩ | ⟨a',ver',tl,rfl,h,_⟩
   ·cases hv
   ·cases hv;omega).out fun _=>rfl
  simp only [oo,this]
end Go.Proofs.YtoaibmbldmckaaaGreat
end
