import Derived.KernelRfl
import Derived.Test.YtoaibmbldmckaaaGreatProg
import Derived.Test.YtoaibmbldmckaaaGreatX2
set_option linter.unusedSimpArgs false
set_option linter.unusedVariables false
set_option linter.unusedSectionVars false
set_option maxRecDepth 100000
section
namespace Go.Proofs.YtoaibmbldmckaaaGreat
open Go.AM Tryz
theorem aZu (s x:V) (fr:Option Nat) (S:St):aW prog 102 s x fr S=dL 23 224 s x fr S:=dG (by kernel_rfl) s x fr S
theorem bCj (s x:V) (fr:Option Nat) (S:St):aW prog 22 s x fr S=dL 1 1 s x fr S:=dG (by kernel_rfl) s x fr S
theorem bCk (s x:V) (fr:Option Nat) (S:St):aW prog 24 s x fr S=dL 5 48 s x fr S:=dG (by kernel_rfl) s x fr S
theorem bCl (s x:V) (fr:Option Nat) (S:St):aW prog 25 s x fr S=dL 4 40 s x fr S:=dG (by kernel_rfl) s x fr S
theorem bCm (s x:V) (fr:Option Nat) (S:St):aW prog 26 s x fr S=dL 12 128 s x fr S:=dG (by kernel_rfl) s x fr S
theorem bCn (s x:V) (fr:Option Nat) (S:St):aW prog 27 s x fr S=dL 2 24 s x fr S:=dG (by kernel_rfl) s x fr S
theorem bCo (s x:V) (fr:Option Nat) (S:St):aW prog 28 s x fr S=dL 5 40 s x fr S:=dG (by kernel_rfl) s x fr S
theorem bCp (s x:V) (fr:Option Nat) (S:St):aW prog 44 s x fr S=dL 17 176 s x fr S:=dG (by kernel_rfl) s x fr S
theorem bCq (s x:V) (fr:Option Nat) (S:St):aW prog 55 s x fr S=dL 4 48 s x fr S:=dG (by kernel_rfl) s x fr S
theorem bCr (s x:V) (fr:Option Nat) (S:St):aW prog 62 s x fr S=dL 3 24 s x fr S:=dG (by kernel_rfl) s x fr S
theorem bCs (s x:V) (fr:Option Nat) (S:St):aW prog 71 s x fr S=dL 4 40 s x fr S:=dG (by kernel_rfl) s x fr S
theorem bCt (s x:V) (fr:Option Nat) (S:St):aW prog 80 s x fr S=dL 4 40 s x fr S:=dG (by kernel_rfl) s x fr S
theorem bCu (s x:V) (fr:Option Nat) (S:St):aW prog 96 s x fr S=dL 1 8 s x fr S:=dG (by kernel_rfl) s x fr S
theorem bCv (s x:V) (fr:Option Nat) (S:St):aW prog 97 s x fr S=dL 23 224 s x fr S:=dG (by kernel_rfl) s x fr S
theorem bCw (parts:List (Nat×V)):aQ prog 126 parts=bM [.str [],.int .i64 0,.int .i64 0,.bool false] [(0,1),(1,1),(2,1),(3,1)] parts:=cB (by kernel_rfl) parts
theorem bCx (parts:List (Nat×V)):aQ prog 132 parts=bM [.int .i64 0,.int .i64 0,.int .i64 0,.int .i64 0,.int .i64 0] [(0,1),(1,1),(2,3)] parts:=cB (by kernel_rfl) parts
theorem bCy (parts:List (Nat×V)):aQ prog 142 parts=bM [.nils,.int .i64 0,.int .i64 0] [(0,1),(1,1),(2,1)] parts:=cB (by kernel_rfl) parts
theorem bCz (parts:List (Nat×V)):aQ prog 145 parts=bM [.str [],.int .i64 0,.int .i64 0,.int .i64 0] [(0,1),(1,1),(2,1),(3,1)] parts:=cB (by kernel_rfl) parts
theorem bD0 (parts:List (Nat×V)):aQ prog 160 parts=bM [.nils] [(0,1)] parts:=cB (by kernel_rfl) parts
theorem bD1 (parts:List (Nat×V)):aQ prog 201 parts=bM [.str [],.str [],.int .i64 0,.int .i64 0] [(0,1),(1,1),(2,1),(3,1)] parts:=cB (by kernel_rfl) parts
theorem bD2 (parts:List (Nat×V)):aQ prog 207 parts=bM [.int .i64 0,.int .i64 0,.int .i64 0,.str [],.int .i64 0,.str [],.int .i64 0,.int .i64 0,.int .i64 0,.int .i64 0,.int .i64 0,.int .i64 0,.int .i64 0,.nils,.str [],.int .i64 0,.int .i64 0,.int .i64 0,.int .i64 0,.int .i64 0,.int .i64 0,.int .i64 0,.int .i64 0] [(0,17),(17,1),(18,1),(19,1),(20,3)] parts:=cB (by kernel_rfl) parts
theorem bD3 (parts:List (Nat×V)):aQ prog 212 parts=bM [.nili] [(0,1)] parts:=cB (by kernel_rfl) parts
theorem bD4 (parts:List (Nat×V)):aQ prog 225 parts=bM [.nils,.int .i64 0,.int .i64 0] [(0,1),(1,1),(2,1)] parts:=cB (by kernel_rfl) parts
theorem bD5 (parts:List (Nat×V)):aQ prog 287 parts=bM [.nils,.bool false] [(0,1),(1,1)] parts:=cB (by kernel_rfl) parts
theorem bHs (parts:List (Nat×V)):aQ prog 30 parts=bM [.nils,.nils,.nils,.nils,.nils,.int .i64 0] [(0,1),(1,1),(2,1),(3,1),(4,1),(5,1)] parts:=cB (by kernel_rfl) parts
theorem bD6 (parts:List (Nat×V)):aQ prog 346 parts=bM [.int .i64 0,.int .u64 0] [(0,1),(1,1)] parts:=cB (by kernel_rfl) parts
theorem bHt (parts:List (Nat×V)):aQ prog 48 parts=bM [.int .i64 0,.int .i64 0,.int .i64 0] [(0,1),(1,1),(2,1)] parts:=cB (by kernel_rfl) parts
theorem bHu (parts:List (Nat×V)):aQ prog 52 parts=bM [.int .i64 0,.int .i64 0,.int .i64 0] [(0,1),(1,1),(2,1)] parts:=cB (by kernel_rfl) parts
theorem bHv (parts:List (Nat×V)):aQ prog 54 parts=bM [.str [],.int .i64 0,.int .i64 0,.int .i64 0,.int .i64 0] [(0,1),(1,3),(4,1)] parts:=cB (by kernel_rfl) parts
theorem bHw (parts:List (Nat×V)):aQ prog 57 parts=bM [.str [],.int .i64 0] [(0,1),(1,1)] parts:=cB (by kernel_rfl) parts
theorem bHx (parts:List (Nat×V)):aQ prog 59 parts=bM [.int .i64 0,.str [],.int .i64 0,.str [],.int .i64 0,.int .i64 0,.int .i64 0,.int .i64 0,.int .i64 0,.int .i64 0,.int .i64 0,.nils,.str [],.int .i64 0,.int .i64 0] [(0,1),(1,1),(2,1),(3,5),(8,3),(11,1),(12,2),(14,1)] parts:=cB (by kernel_rfl) parts
theorem bHy (parts:List (Nat×V)):aQ prog 61 parts=bM [.int .i64 0,.int .i64 0,.int .i64 0,.str [],.int .i64 0,.str [],.int .i64 0,.int .i64 0,.int .i64 0,.int .i64 0,.int .i64 0,.int .i64 0,.int .i64 0,.nils,.str [],.int .i64 0,.int .i64 0] [(0,1),(1,1),(2,15)] parts:=cB (by kernel_rfl) parts
theorem bHz (parts:List (Nat×V)):aQ prog 76 parts=bM [.str [],.int .i64 0,.int .i64 0,.int .i64 0] [(0,1),(1,1),(2,1),(3,1)] parts:=cB (by kernel_rfl) parts
theorem bI0 (parts:List (Nat×V)):aQ prog 77 parts=bM [.str [],.int .i64 0,.int .i64 0,.int .i64 0] [(0,1),(1,1),(2,1),(3,1)] parts:=cB (by kernel_rfl) parts
theorem bI1 (parts:List (Nat×V)):aQ prog 82 parts=bM [.int .i64 0,.int .i64 0,.int .i64 0,.nils] [(0,1),(1,1),(2,1),(3,1)] parts:=cB (by kernel_rfl) parts
theorem bI2 (parts:List (Nat×V)):aQ prog 84 parts=bM [.str [],.int .i64 0,.int .i64 0,.int .i64 0,.int .i64 0,.int .i64 0,.int .i64 0,.int .i64 0,.nils,.str [],.int .i64 0,.bool false] [(0,2),(2,3),(5,4),(9,2),(11,1)] parts:=cB (by kernel_rfl) parts
theorem bI3 (parts:List (Nat×V)):aQ prog 90 parts=bM [.str [],.int .i64 0] [(0,1),(1,1)] parts:=cB (by kernel_rfl) parts
theorem bI4 (parts:List (Nat×V)):aQ prog 99 parts=bM [.int .i64 0,.int .i64 0,.int .i64 0,.str [],.int .i64 0,.str [],.int .i64 0,.int .i64 0,.int .i64 0,.int .i64 0,.int .i64 0,.int .i64 0,.int .i64 0,.nils,.str [],.int .i64 0,.int .i64 0,.int .i64 0,.int .i64 0,.int .i64 0,.int .i64 0,.int .i64 0,.int .i64 0] [(0,17),(17,1),(18,1),(19,1),(20,3)] parts:=cB (by kernel_rfl) parts
theorem bD7 (len:Nat) (parts:List (Nat×V)) (fr:Option Nat) (S:St):aK prog 102 len parts fr S=aR 23 [.int .i64 0,.int .i64 0,.int .i64 0,.str [],.int .i64 0,.str [],.int .i64 0,.int .i64 0,.int .i64 0,.int .i64 0,.int .i64 0,.int .i64 0,.int .i64 0,.nils,.str [],.int .i64 0,.int .i64 0,.int .i64 0,.int .i64 0,.int .i64 0,.int .i64 0,.int .i64 0,.int .i64 0] len parts fr S:=bN (by kernel_rfl) len parts fr S
theorem bI5 (len:Nat) (parts:List (Nat×V)) (fr:Option Nat) (S:St):aK prog 22 len parts fr S=aR 1 [.int .u8 0] len parts fr S:=bN (by kernel_rfl) len parts fr S
theorem bI6 (len:Nat) (parts:List (Nat×V)) (fr:Option Nat) (S:St):aK prog 24 len parts fr S=aR 5 [.str [],.int .i64 0,.int .i64 0,.int .i64 0,.int .i64 0] len parts fr S:=bN (by kernel_rfl) len parts fr S
theorem bI7 (len:Nat) (parts:List (Nat×V)) (fr:Option Nat) (S:St):aK prog 25 len parts fr S=aR 4 [.str [],.int .i64 0,.int .i64 0,.bool false] len parts fr S:=bN (by kernel_rfl) len parts fr S
theorem bI8 (len:Nat) (parts:List (Nat×V)) (fr:Option Nat) (S:St):aK prog 26 len parts fr S=aR 12 [.str [],.int .i64 0,.int .i64 0,.int .i64 0,.int .i64 0,.int .i64 0,.int .i64 0,.int .i64 0,.nils,.str [],.int .i64 0,.bool false] len parts fr S:=bN (by kernel_rfl) len parts fr S
theorem bI9 (len:Nat) (parts:List (Nat×V)) (fr:Option Nat) (S:St):aK prog 27 len parts fr S=aR 2 [.str [],.int .i64 0] len parts fr S:=bN (by kernel_rfl) len parts fr S
theorem bIa (len:Nat) (parts:List (Nat×V)) (fr:Option Nat) (S:St):aK prog 28 len parts fr S=aR 5 [.int .i64 0,.int .i64 0,.int .i64 0,.int .i64 0,.int .i64 0] len parts fr S:=bN (by kernel_rfl) len parts fr S
theorem bD8 (len:Nat) (parts:List (Nat×V)) (fr:Option Nat) (S:St):aK prog 361 len parts fr S=aR 1 [.nilp] len parts fr S:=bN (by kernel_rfl) len parts fr S
theorem bD9 (len:Nat) (parts:List (Nat×V)) (fr:Option Nat) (S:St):aK prog 364 len parts fr S=aR 1 [.str []] len parts fr S:=bN (by kernel_rfl) len parts fr S
theorem bIb (len:Nat) (parts:List (Nat×V)) (fr:Option Nat) (S:St):aK prog 44 len parts fr S=aR 17 [.int .i64 0,.int .i64 0,.int .i64 0,.str [],.int .i64 0,.str [],.int .i64 0,.int .i64 0,.int .i64 0,.int .i64 0,.int .i64 0,.int .i64 0,.int .i64 0,.nils,.str [],.int .i64 0,.int .i64 0] len parts fr S:=bN (by kernel_rfl) len parts fr S
theorem bIc (len:Nat) (parts:List (Nat×V)) (fr:Option Nat) (S:St):aK prog 55 len parts fr S=aR 4 [.str [],.str [],.int .i64 0,.int .i64 0] len parts fr S:=bN (by kernel_rfl) len parts fr S
theorem bId (len:Nat) (parts:List (Nat×V)) (fr:Option Nat) (S:St):aK prog 62 len parts fr S=aR 3 [.int .i64 0,.int .i64 0,.int .i64 0] len parts fr S:=bN (by kernel_rfl) len parts fr S
theorem bIe (len:Nat) (parts:List (Nat×V)) (fr:Option Nat) (S:St):aK prog 68 len parts fr S=aR 4 [.str [],.int .i64 0,.int .i64 0,.int .i64 0] len parts fr S:=bN (by kernel_rfl) len parts fr S
theorem bIf (len:Nat) (parts:List (Nat×V)) (fr:Option Nat) (S:St):aK prog 71 len parts fr S=aR 4 [.str [],.int .i64 0,.int .i64 0,.int .i64 0] len parts fr S:=bN (by kernel_rfl) len parts fr S
theorem bIg (len:Nat) (parts:List (Nat×V)) (fr:Option Nat) (S:St):aK prog 80 len parts fr S=aR 4 [.str [],.int .i64 0,.int .i64 0,.int .i64 0] len parts fr S:=bN (by kernel_rfl) len parts fr S
theorem bIh (len:Nat) (parts:List (Nat×V)) (fr:Option Nat) (S:St):aK prog 96 len parts fr S=aR 1 [.int .i64 0] len parts fr S:=bN (by kernel_rfl) len parts fr S
theorem bIi (len:Nat) (parts:List (Nat×V)) (fr:Option Nat) (S:St):aK prog 97 len parts fr S=aR 23 [.int .i64 0,.int .i64 0,.int .i64 0,.str [],.int .i64 0,.str [],.int .i64 0,.int .i64 0,.int .i64 0,.int .i64 0,.int .i64 0,.int .i64 0,.int .i64 0,.nils,.str [],.int .i64 0,.int .i64 0,.int .i64 0,.int .i64 0,.int .i64 0,.int .i64 0,.int .i64 0,.int .i64 0] len parts fr S:=bN (by kernel_rfl) len parts fr S
theorem aWg (j:IntKind) (n:Int) (fr:Option Nat) (S:St):bG prog 229 3 (.int j n) fr S=.ok (.int .i64 (wr .i64 n),S):=kR (by kernel_rfl) j n fr S
theorem aWh (j:IntKind) (n:Int) (fr:Option Nat) (S:St):bG prog 229 5 (.int j n) fr S=.ok (.int .u8 (wr .u8 n),S):=kR (by kernel_rfl) j n fr S
theorem aWi (j:IntKind) (n:Int) (fr:Option Nat) (S:St):bG prog 3 229 (.int j n) fr S=.ok (.int .u64 (wr .u64 n),S):=kR (by kernel_rfl) j n fr S
theorem aWj (j:IntKind) (n:Int) (fr:Option Nat) (S:St):bG prog 3 231 (.int j n) fr S=.ok (.int .u64 (wr .u64 n),S):=kR (by kernel_rfl) j n fr S
theorem aWk (j:IntKind) (n:Int) (fr:Option Nat) (S:St):bG prog 5 229 (.int j n) fr S=.ok (.int .u64 (wr .u64 n),S):=kR (by kernel_rfl) j n fr S
theorem aZv:(fun (a_0:List UInt8) (a_1:Int) (a_2:Int) (a_3:Bool) (b_0:List UInt8) (b_1:Int) (b_2:Int) (b_3:Bool)=>mN prog 100 126 (.agg [.str a_0,.int .i64 a_1,.int .i64 a_2,.bool a_3]) (.agg [.str b_0,.int .i64 b_1,.int .i64 b_2,.bool b_3]))=fun a_0 a_1 a_2 a_3 b_0 b_1 b_2 b_3=>(fE (.ok (oY a_0 b_0)) (fE (.ok (decide (a_1=b_1))) (fE (.ok (decide (a_2=b_2))) (fE (.ok (a_3 == b_3)) (.ok true))))):=by kernel_rfl
theorem bDa (a_0:List UInt8) (a_1:Int) (a_2:Int) (a_3:Bool) (b_0:List UInt8) (b_1:Int) (b_2:Int) (b_3:Bool):mN prog 100 126 (.agg [.str a_0,.int .i64 a_1,.int .i64 a_2,.bool a_3]) (.agg [.str b_0,.int .i64 b_1,.int .i64 b_2,.bool b_3])=.ok ((a_0 == b_0)&&decide (a_1=b_1)&&decide (a_2=b_2)&&(a_3 == b_3)):=by
 refine (congrFun (congrFun (congrFun (congrFun (congrFun (congrFun (congrFun (congrFun aZv a_0) a_1) a_2) a_3) b_0) b_1) b_2) b_3).trans ?_
 simp only [jC,dJ,Bool.and_true,Bool.and_assoc]
theorem bDb:(fun a b=>aL prog 126 (.agg a) (.agg b))=fun _ _=>true:=by kernel_rfl
theorem aZw:(fun (a_0:Int) (a_1:Int) (a_2_0:Int) (a_2_1:Int) (a_2_2:Int) (b_0:Int) (b_1:Int) (b_2_0:Int) (b_2_1:Int) (b_2_2:Int)=>mN prog 100 132 (.agg [.int .i64 a_0,.int .i64 a_1,.int .i64 a_2_0,.int .i64 a_2_1,.int .i64 a_2_2]) (.agg [.int .i64 b_0,.int .i64 b_1,.int .i64 b_2_0,.int .i64 b_2_1,.int .i64 b_2_2]))=fun a_0 a_1 a_2_0 a_2_1 a_2_2 b_0 b_1 b_2_0 b_2_1 b_2_2=>(fE (.ok (decide (a_0=b_0))) (fE (.ok (decide (a_1=b_1))) (fE (fE (.ok (decide (a_2_0=b_2_0))) (fE (.ok (decide (a_2_1=b_2_1))) (fE (.ok (decide (a_2_2=b_2_2))) (.ok true)))) (.ok true)))):=by kernel_rfl
theorem bDc (a_0:Int) (a_1:Int) (a_2_0:Int) (a_2_1:Int) (a_2_2:Int) (b_0:Int) (b_1:Int) (b_2_0:Int) (b_2_1:Int) (b_2_2:Int):mN prog 100 132 (.agg [.int .i64 a_0,.int .i64 a_1,.int .i64 a_2_0,.int .i64 a_2_1,.int .i64 a_2_2]) (.agg [.int .i64 b_0,.int .i64 b_1,.int .i64 b_2_0,.int .i64 b_2_1,.int .i64 b_2_2])=.ok (decide (a_0=b_0)&&decide (a_1=b_1)&&decide (a_2_0=b_2_0)&&decide (a_2_1=b_2_1)&&decide (a_2_2=b_2_2)):=by
 refine (congrFun (congrFun (congrFun (congrFun (congrFun (congrFun (congrFun (congrFun (congrFun (congrFun aZw a_0) a_1) a_2_0) a_2_1) a_2_2) b_0) b_1) b_2_0) b_2_1) b_2_2).trans ?_
 simp only [jC,dJ,Bool.and_true,Bool.and_assoc]
theorem bDd:(fun a b=>aL prog 132 (.agg a) (.agg b))=fun _ _=>true:=by kernel_rfl
theorem aZx:(fun (a_0:List UInt8) (a_1:Int) (a_2:Int) (a_3:Int) (b_0:List UInt8) (b_1:Int) (b_2:Int) (b_3:Int)=>mN prog 100 145 (.agg [.str a_0,.int .i64 a_1,.int .i64 a_2,.int .i64 a_3]) (.agg [.str b_0,.int .i64 b_1,.int .i64 b_2,.int .i64 b_3]))=fun a_0 a_1 a_2 a_3 b_0 b_1 b_2 b_3=>(fE (.ok (oY a_0 b_0)) (fE (.ok (decide (a_1=b_1))) (fE (.ok (decide (a_2=b_2))) (fE (.ok (decide (a_3=b_3))) (.ok true))))):=by kernel_rfl
theorem bDe (a_0:List UInt8) (a_1:Int) (a_2:Int) (a_3:Int) (b_0:List UInt8) (b_1:Int) (b_2:Int) (b_3:Int):mN prog 100 145 (.agg [.str a_0,.int .i64 a_1,.int .i64 a_2,.int .i64 a_3]) (.agg [.str b_0,.int .i64 b_1,.int .i64 b_2,.int .i64 b_3])=.ok ((a_0 == b_0)&&decide (a_1=b_1)&&decide (a_2=b_2)&&decide (a_3=b_3)):=by
 refine (congrFun (congrFun (congrFun (congrFun (congrFun (congrFun (congrFun (congrFun aZx a_0) a_1) a_2) a_3) b_0) b_1) b_2) b_3).trans ?_
 simp only [jC,dJ,Bool.and_true,Bool.and_assoc]
theorem bDf:(fun a b=>aL prog 145 (.agg a) (.agg b))=fun _ _=>true:=by kernel_rfl
theorem aZy:(fun (a_0:List UInt8) (a_1:List UInt8) (a_2:Int) (a_3:Int) (b_0:List UInt8) (b_1:List UInt8) (b_2:Int) (b_3:Int)=>mN prog 100 201 (.agg [.str a_0,.str a_1,.int .i64 a_2,.int .i64 a_3]) (.agg [.str b_0,.str b_1,.int .i64 b_2,.int .i64 b_3]))=fun a_0 a_1 a_2 a_3 b_0 b_1 b_2 b_3=>(fE (.ok (oY a_0 b_0)) (fE (.ok (oY a_1 b_1)) (fE (.ok (decide (a_2=b_2))) (fE (.ok (decide (a_3=b_3))) (.ok true))))):=by kernel_rfl
theorem bDg (a_0:List UInt8) (a_1:List UInt8) (a_2:Int) (a_3:Int) (b_0:List UInt8) (b_1:List UInt8) (b_2:Int) (b_3:Int):mN prog 100 201 (.agg [.str a_0,.str a_1,.int .i64 a_2,.int .i64 a_3]) (.agg [.str b_0,.str b_1,.int .i64 b_2,.int .i64 b_3])=.ok ((a_0 == b_0)&&(a_1 == b_1)&&decide (a_2=b_2)&&decide (a_3=b_3)):=by
 refine (congrFun (congrFun (congrFun (congrFun (congrFun (congrFun (congrFun (congrFun aZy a_0) a_1) a_2) a_3) b_0) b_1) b_2) b_3).trans ?_
 simp only [jC,dJ,Bool.and_true,Bool.and_assoc]
theorem bDh:(fun a b=>aL prog 201 (.agg a) (.agg b))=fun _ _=>true:=by kernel_rfl
theorem aZz:(fun (a_0:Int) (a_1:Int) (b_0:Int) (b_1:Int)=>mN prog 100 346 (.agg [.int .i64 a_0,.int .u64 a_1]) (.agg [.int .i64 b_0,.int .u64 b_1]))=fun a_0 a_1 b_0 b_1=>(fE (.ok (decide (a_0=b_0))) (fE (.ok (decide (a_1=b_1))) (.ok true))):=by kernel_rfl
theorem bDi (a_0:Int) (a_1:Int) (b_0:Int) (b_1:Int):mN prog 100 346 (.agg [.int .i64 a_0,.int .u64 a_1]) (.agg [.int .i64 b_0,.int .u64 b_1])=.ok (decide (a_0=b_0)&&decide (a_1=b_1)):=by
 refine (congrFun (congrFun (congrFun (congrFun aZz a_0) a_1) b_0) b_1).trans ?_
 simp only [jC,dJ,Bool.and_true,Bool.and_assoc]
theorem bDj:(fun a b=>aL prog 346 (.agg a) (.agg b))=fun _ _=>true:=by kernel_rfl
theorem bDk:(fun (a_0:Int) (a_1:Int) (a_2:Int) (b_0:Int) (b_1:Int) (b_2:Int)=>mN prog 100 48 (.agg [.int .i64 a_0,.int .i64 a_1,.int .i64 a_2]) (.agg [.int .i64 b_0,.int .i64 b_1,.int .i64 b_2]))=fun a_0 a_1 a_2 b_0 b_1 b_2=>(fE (.ok (decide (a_0=b_0))) (fE (.ok (decide (a_1=b_1))) (fE (.ok (decide (a_2=b_2))) (.ok true)))):=by kernel_rfl
theorem bIj (a_0:Int) (a_1:Int) (a_2:Int) (b_0:Int) (b_1:Int) (b_2:Int):mN prog 100 48 (.agg [.int .i64 a_0,.int .i64 a_1,.int .i64 a_2]) (.agg [.int .i64 b_0,.int .i64 b_1,.int .i64 b_2])=.ok (decide (a_0=b_0)&&decide (a_1=b_1)&&decide (a_2=b_2)):=by
 refine (congrFun (congrFun (congrFun (congrFun (congrFun (congrFun bDk a_0) a_1) a_2) b_0) b_1) b_2).trans ?_
 simp only [jC,dJ,Bool.and_true,Bool.and_assoc]
theorem bIk:(fun a b=>aL prog 48 (.agg a) (.agg b))=fun _ _=>true:=by kernel_rfl
theorem bDl:(fun (a_0:Int) (a_1:Int) (a_2:Int) (b_0:Int) (b_1:Int) (b_2:Int)=>mN prog 100 52 (.agg [.int .i64 a_0,.int .i64 a_1,.int .i64 a_2]) (.agg [.int .i64 b_0,.int .i64 b_1,.int .i64 b_2]))=fun a_0 a_1 a_2 b_0 b_1 b_2=>(fE (.ok (decide (a_0=b_0))) (fE (.ok (decide (a_1=b_1))) (fE (.ok (decide (a_2=b_2))) (.ok true)))):=by kernel_rfl
theorem bIl (a_0:Int) (a_1:Int) (a_2:Int) (b_0:Int) (b_1:Int) (b_2:Int):mN prog 100 52 (.agg [.int .i64 a_0,.int .i64 a_1,.int .i64 a_2]) (.agg [.int .i64 b_0,.int .i64 b_1,.int .i64 b_2])=.ok (decide (a_0=b_0)&&decide (a_1=b_1)&&decide (a_2=b_2)):=by
 refine (congrFun (congrFun (congrFun (congrFun (congrFun (congrFun bDl a_0) a_1) a_2) b_0) b_1) b_2).trans ?_
 simp only [jC,dJ,Bool.and_true,Bool.and_assoc]
theorem bIm:(fun a b=>aL prog 52 (.agg a) (.agg b))=fun _ _=>true:=by kernel_rfl
theorem bDm:(fun (a_0:List UInt8) (a_1_0:Int) (a_1_1:Int) (a_1_2:Int) (a_2:Int) (b_0:List UInt8) (b_1_0:Int) (b_1_1:Int) (b_1_2:Int) (b_2:Int)=>mN prog 100 54 (.agg [.str a_0,.int .i64 a_1_0,.int .i64 a_1_1,.int .i64 a_1_2,.int .i64 a_2]) (.agg [.str b_0,.int .i64 b_1_0,.int .i64 b_1_1,.int .i64 b_1_2,.int .i64 b_2]))=fun a_0 a_1_0 a_1_1 a_1_2 a_2 b_0 b_1_0 b_1_1 b_1_2 b_2=>(fE (.ok (oY a_0 b_0)) (fE (fE (.ok (decide (a_1_0=b_1_0))) (fE (.ok (decide (a_1_1=b_1_1))) (fE (.ok (decide (a_1_2=b_1_2))) (.ok true)))) (fE (.ok (decide (a_2=b_2))) (.ok true)))):=by kernel_rfl
theorem bIn (a_0:List UInt8) (a_1_0:Int) (a_1_1:Int) (a_1_2:Int) (a_2:Int) (b_0:List UInt8) (b_1_0:Int) (b_1_1:Int) (b_1_2:Int) (b_2:Int):mN prog 100 54 (.agg [.str a_0,.int .i64 a_1_0,.int .i64 a_1_1,.int .i64 a_1_2,.int .i64 a_2]) (.agg [.str b_0,.int .i64 b_1_0,.int .i64 b_1_1,.int .i64 b_1_2,.int .i64 b_2])=.ok ((a_0 == b_0)&&decide (a_1_0=b_1_0)&&decide (a_1_1=b_1_1)&&decide (a_1_2=b_1_2)&&decide (a_2=b_2)):=by
 refine (congrFun (congrFun (congrFun (congrFun (congrFun (congrFun (congrFun (congrFun (congrFun (congrFun bDm a_0) a_1_0) a_1_1) a_1_2) a_2) b_0) b_1_0) b_1_1) b_1_2) b_2).trans ?_
 simp only [jC,dJ,Bool.and_true,Bool.and_assoc]
theorem bIo:(fun a b=>aL prog 54 (.agg a) (.agg b))=fun _ _=>true:=by kernel_rfl
theorem bDn:(fun (a_0:List UInt8) (a_1:Int) (b_0:List UInt8) (b_1:Int)=>mN prog 100 57 (.agg [.str a_0,.int .i64 a_1]) (.agg [.str b_0,.int .i64 b_1]))=fun a_0 a_1 b_0 b_1=>(fE (.ok (oY a_0 b_0)) (fE (.ok (decide (a_1=b_1))) (.ok true))):=by kernel_rfl
theorem bIp (a_0:List UInt8) (a_1:Int) (b_0:List UInt8) (b_1:Int):mN prog 100 57 (.agg [.str a_0,.int .i64 a_1]) (.agg [.str b_0,.int .i64 b_1])=.ok ((a_0 == b_0)&&decide (a_1=b_1)):=by
 refine (congrFun (congrFun (congrFun (congrFun bDn a_0) a_1) b_0) b_1).trans ?_
 simp only [jC,dJ,Bool.and_true,Bool.and_assoc]
theorem bIq:(fun a b=>aL prog 57 (.agg a) (.agg b))=fun _ _=>true:=by kernel_rfl
theorem bDo:(fun (a_0:List UInt8) (a_1:Int) (a_2:Int) (a_3:Int) (b_0:List UInt8) (b_1:Int) (b_2:Int) (b_3:Int)=>mN prog 100 76 (.agg [.str a_0,.int .i64 a_1,.int .i64 a_2,.int .i64 a_3]) (.agg [.str b_0,.int .i64 b_1,.int .i64 b_2,.int .i64 b_3]))=fun a_0 a_1 a_2 a_3 b_0 b_1 b_2 b_3=>(fE (.ok (oY a_0 b_0)) (fE (.ok (decide (a_1=b_1))) (fE (.ok (decide (a_2=b_2))) (fE (.ok (decide (a_3=b_3))) (.ok true))))):=by kernel_rfl
theorem bIr (a_0:List UInt8) (a_1:Int) (a_2:Int) (a_3:Int) (b_0:List UInt8) (b_1:Int) (b_2:Int) (b_3:Int):mN prog 100 76 (.agg [.str a_0,.int .i64 a_1,.int .i64 a_2,.int .i64 a_3]) (.agg [.str b_0,.int .i64 b_1,.int .i64 b_2,.int .i64 b_3])=.ok ((a_0 == b_0)&&decide (a_1=b_1)&&decide (a_2=b_2)&&decide (a_3=b_3)):=by
 refine (congrFun (congrFun (congrFun (congrFun (congrFun (congrFun (congrFun (congrFun bDo a_0) a_1) a_2) a_3) b_0) b_1) b_2) b_3).trans ?_
 simp only [jC,dJ,Bool.and_true,Bool.and_assoc]
theorem bIs:(fun a b=>aL prog 76 (.agg a) (.agg b))=fun _ _=>true:=by kernel_rfl
theorem bDp:(fun (a_0:List UInt8) (a_1:Int) (b_0:List UInt8) (b_1:Int)=>mN prog 100 90 (.agg [.str a_0,.int .i64 a_1]) (.agg [.str b_0,.int .i64 b_1]))=fun a_0 a_1 b_0 b_1=>(fE (.ok (oY a_0 b_0)) (fE (.ok (decide (a_1=b_1))) (.ok true))):=by kernel_rfl
theorem bIt (a_0:List UInt8) (a_1:Int) (b_0:List UInt8) (b_1:Int):mN prog 100 90 (.agg [.str a_0,.int .i64 a_1]) (.agg [.str b_0,.int .i64 b_1])=.ok ((a_0 == b_0)&&decide (a_1=b_1)):=by
 refine (congrFun (congrFun (congrFun (congrFun bDp a_0) a_1) b_0) b_1).trans ?_
 simp only [jC,dJ,Bool.and_true,Bool.and_assoc]
theorem bIu:(fun a b=>aL prog 90 (.agg a) (.agg b))=fun _ _=>true:=by kernel_rfl
theorem aWl (p:V):aA prog 126 p 0=advW 0 p:=aF (by kernel_rfl) p
theorem aWm (p:V):aA prog 126 p 1=advW 1 p:=aF (by kernel_rfl) p
theorem aWn (p:V):aA prog 126 p 2=advW 2 p:=aF (by kernel_rfl) p
theorem aWo (p:V):aA prog 126 p 3=advW 3 p:=aF (by kernel_rfl) p
theorem aWp (p:V):aA prog 132 p 0=advW 0 p:=aF (by kernel_rfl) p
theorem aWq (p:V):aA prog 132 p 1=advW 1 p:=aF (by kernel_rfl) p
theorem aWr (p:V):aA prog 132 p 2=advW 2 p:=aF (by kernel_rfl) p
theorem aWs (p:V):aA prog 142 p 0=advW 0 p:=aF (by kernel_rfl) p
theorem aWt (p:V):aA prog 142 p 1=advW 1 p:=aF (by kernel_rfl) p
theorem aWu (p:V):aA prog 142 p 2=advW 2 p:=aF (by kernel_rfl) p
theorem aWv (p:V):aA prog 145 p 0=advW 0 p:=aF (by kernel_rfl) p
theorem aWw (p:V):aA prog 145 p 1=advW 1 p:=aF (by kernel_rfl) p
theorem aWx (p:V):aA prog 145 p 2=advW 2 p:=aF (by kernel_rfl) p
theorem aWy (p:V):aA prog 145 p 3=advW 3 p:=aF (by kernel_rfl) p
theorem aWz (p:V):aA prog 160 p 0=advW 0 p:=aF (by kernel_rfl) p
theorem aX0 (p:V):aA prog 201 p 0=advW 0 p:=aF (by kernel_rfl) p
theorem aX1 (p:V):aA prog 201 p 1=advW 1 p:=aF (by kernel_rfl) p
theorem aX2 (p:V):aA prog 201 p 2=advW 2 p:=aF (by kernel_rfl) p
theorem aX3 (p:V):aA prog 201 p 3=advW 3 p:=aF (by kernel_rfl) p
theorem aX4 (p:V):aA prog 207 p 0=advW 0 p:=aF (by kernel_rfl) p
theorem aX5 (p:V):aA prog 207 p 1=advW 17 p:=aF (by kernel_rfl) p
theorem aX6 (p:V):aA prog 207 p 2=advW 18 p:=aF (by kernel_rfl) p
theorem aX7 (p:V):aA prog 207 p 3=advW 19 p:=aF (by kernel_rfl) p
theorem aX8 (p:V):aA prog 207 p 4=advW 20 p:=aF (by kernel_rfl) p
theorem aX9 (p:V):aA prog 220 p 1=advW 1 p:=aF (by kernel_rfl) p
theorem aXa (p:V):aA prog 220 p 2=advW 2 p:=aF (by kernel_rfl) p
theorem aXb (p:V):aA prog 225 p 0=advW 0 p:=aF (by kernel_rfl) p
theorem aXc (p:V):aA prog 225 p 1=advW 1 p:=aF (by kernel_rfl) p
theorem aXd (p:V):aA prog 225 p 2=advW 2 p:=aF (by kernel_rfl) p
theorem aXe (p:V):aA prog 287 p 0=advW 0 p:=aF (by kernel_rfl) p
theorem aXf (p:V):aA prog 287 p 1=advW 1 p:=aF (by kernel_rfl) p
theorem bA0 (p:V):aA prog 30 p 0=advW 0 p:=aF (by kernel_rfl) p
theorem bA1 (p:V):aA prog 30 p 1=advW 1 p:=aF (by kernel_rfl) p
theorem bA2 (p:V):aA prog 30 p 2=advW 2 p:=aF (by kernel_rfl) p
theorem bA3 (p:V):aA prog 30 p 3=advW 3 p:=aF (by kernel_rfl) p
theorem bA4 (p:V):aA prog 30 p 4=advW 4 p:=aF (by kernel_rfl) p
theorem bA5 (p:V):aA prog 30 p 5=advW 5 p:=aF (by kernel_rfl) p
theorem aXg (p:V):aA prog 346 p 0=advW 0 p:=aF (by kernel_rfl) p
theorem aXh (p:V):aA prog 346 p 1=advW 1 p:=aF (by kernel_rfl) p
theorem bA6 (p:V):aA prog 48 p 0=advW 0 p:=aF (by kernel_rfl) p
theorem bA7 (p:V):aA prog 48 p 1=advW 1 p:=aF (by kernel_rfl) p
theorem bA8 (p:V):aA prog 48 p 2=advW 2 p:=aF (by kernel_rfl) p
theorem bA9 (p:V):aA prog 52 p 0=advW 0 p:=aF (by kernel_rfl) p
theorem bAa (p:V):aA prog 52 p 1=advW 1 p:=aF (by kernel_rfl) p
theorem bAb (p:V):aA prog 52 p 2=advW 2 p:=aF (by kernel_rfl) p
theorem bAc (p:V):aA prog 54 p 0=advW 0 p:=aF (by kernel_rfl) p
theorem bAd (p:V):aA prog 54 p 1=advW 1 p:=aF (by kernel_rfl) p
theorem bAe (p:V):aA prog 54 p 2=advW 4 p:=aF (by kernel_rfl) p
theorem bAf (p:V):aA prog 57 p 0=advW 0 p:=aF (by kernel_rfl) p
theorem bAg (p:V):aA prog 57 p 1=advW 1 p:=aF (by kernel_rfl) p
theorem bAh (p:V):aA prog 59 p 0=advW 0 p:=aF (by kernel_rfl) p
theorem bAi (p:V):aA prog 59 p 1=advW 1 p:=aF (by kernel_rfl) p
theorem bAj (p:V):aA prog 59 p 2=advW 2 p:=aF (by kernel_rfl) p
theorem bAk (p:V):aA prog 59 p 3=advW 3 p:=aF (by kernel_rfl) p
theorem bAl (p:V):aA prog 59 p 4=advW 8 p:=aF (by kernel_rfl) p
theorem bAm (p:V):aA prog 59 p 5=advW 11 p:=aF (by kernel_rfl) p
theorem bAn (p:V):aA prog 59 p 6=advW 12 p:=aF (by kernel_rfl) p
theorem bAo (p:V):aA prog 59 p 7=advW 14 p:=aF (by kernel_rfl) p
theorem bAp (p:V):aA prog 61 p 0=advW 0 p:=aF (by kernel_rfl) p
theorem bAq (p:V):aA prog 61 p 1=advW 1 p:=aF (by kernel_rfl) p
theorem bAr (p:V):aA prog 61 p 2=advW 2 p:=aF (by kernel_rfl) p
theorem bAs (p:V):aA prog 76 p 0=advW 0 p:=aF (by kernel_rfl) p
theorem bAt (p:V):aA prog 76 p 1=advW 1 p:=aF (by kernel_rfl) p
theorem bAu (p:V):aA prog 76 p 2=advW 2 p:=aF (by kernel_rfl) p
theorem bAv (p:V):aA prog 76 p 3=advW 3 p:=aF (by kernel_rfl) p
theorem bAw (p:V):aA prog 77 p 0=advW 0 p:=aF (by kernel_rfl) p
theorem bAx (p:V):aA prog 77 p 1=advW 1 p:=aF (by kernel_rfl) p
theorem bAy (p:V):aA prog 77 p 2=advW 2 p:=aF (by kernel_rfl) p
theorem bAz (p:V):aA prog 77 p 3=advW 3 p:=aF (by kernel_rfl) p
theorem bB0 (p:V):aA prog 82 p 0=advW 0 p:=aF (by kernel_rfl) p
theorem bB1 (p:V):aA prog 82 p 1=advW 1 p:=aF (by kernel_rfl) p
theorem bB2 (p:V):aA prog 82 p 2=advW 2 p:=aF (by kernel_rfl) p
theorem bB3 (p:V):aA prog 82 p 3=advW 3 p:=aF (by kernel_rfl) p
theorem bB4 (p:V):aA prog 84 p 0=advW 0 p:=aF (by kernel_rfl) p
theorem bB5 (p:V):aA prog 84 p 1=advW 2 p:=aF (by kernel_rfl) p
theorem bB6 (p:V):aA prog 84 p 2=advW 5 p:=aF (by kernel_rfl) p
theorem bB7 (p:V):aA prog 84 p 3=advW 9 p:=aF (by kernel_rfl) p
theorem bB8 (p:V):aA prog 84 p 4=advW 11 p:=aF (by kernel_rfl) p
theorem bB9 (p:V):aA prog 90 p 0=advW 0 p:=aF (by kernel_rfl) p
theorem bBa (p:V):aA prog 90 p 1=advW 1 p:=aF (by kernel_rfl) p
theorem bBb (p:V):aA prog 99 p 0=advW 0 p:=aF (by kernel_rfl) p
theorem bBc (p:V):aA prog 99 p 1=advW 17 p:=aF (by kernel_rfl) p
theorem bBd (p:V):aA prog 99 p 2=advW 18 p:=aF (by kernel_rfl) p
theorem bBe (p:V):aA prog 99 p 3=advW 19 p:=aF (by kernel_rfl) p
theorem bBf (p:V):aA prog 99 p 4=advW 20 p:=aF (by kernel_rfl) p
theorem bDq (x i:V):aC prog 102 x i=cV 23 x i:=bP (by kernel_rfl) x i
theorem bDr (x i:V):aC prog 114 x i=cV 3 x i:=bP (by kernel_rfl) x i
theorem bIv (x i:V):aC prog 22 x i=cV 1 x i:=bP (by kernel_rfl) x i
theorem bIw (x i:V):aC prog 24 x i=cV 5 x i:=bP (by kernel_rfl) x i
theorem bIx (x i:V):aC prog 25 x i=cV 4 x i:=bP (by kernel_rfl) x i
theorem bIy (x i:V):aC prog 26 x i=cV 12 x i:=bP (by kernel_rfl) x i
theorem bIz (x i:V):aC prog 27 x i=cV 2 x i:=bP (by kernel_rfl) x i
theorem bJ0 (x i:V):aC prog 28 x i=cV 5 x i:=bP (by kernel_rfl) x i
theorem bDs (x i:V):aC prog 361 x i=cV 1 x i:=bP (by kernel_rfl) x i
theorem bDt (x i:V):aC prog 364 x i=cV 1 x i:=bP (by kernel_rfl) x i
theorem bJ1 (x i:V):aC prog 44 x i=cV 17 x i:=bP (by kernel_rfl) x i
theorem bJ2 (x i:V):aC prog 55 x i=cV 4 x i:=bP (by kernel_rfl) x i
theorem bJ3 (x i:V):aC prog 62 x i=cV 3 x i:=bP (by kernel_rfl) x i
theorem bJ4 (x i:V):aC prog 68 x i=cV 4 x i:=bP (by kernel_rfl) x i
theorem bJ5 (x i:V):aC prog 71 x i=cV 4 x i:=bP (by kernel_rfl) x i
theorem bJ6 (x i:V):aC prog 80 x i=cV 4 x i:=bP (by kernel_rfl) x i
theorem bJ7 (x i:V):aC prog 96 x i=cV 1 x i:=bP (by kernel_rfl) x i
theorem bJ8 (x i:V):aC prog 97 x i=cV 23 x i:=bP (by kernel_rfl) x i
theorem bDu (p:V) (S:St):aB prog 126 p S=bB (some 4) p S:=bL (by kernel_rfl) p S
theorem bDv (p:V) (S:St):aB prog 132 p S=bB (some 5) p S:=bL (by kernel_rfl) p S
theorem bDw (p:V) (S:St):aB prog 145 p S=bB (some 4) p S:=bL (by kernel_rfl) p S
theorem ld2 (p:V) (S:St):aB prog 2 p S=bB none p S:=bL (by kernel_rfl) p S
theorem bDx (p:V) (S:St):aB prog 201 p S=bB (some 4) p S:=bL (by kernel_rfl) p S
theorem bDy (p:V) (S:St):aB prog 212 p S=bB (some 1) p S:=bL (by kernel_rfl) p S
theorem bJa (p:V) (S:St):aB prog 22 p S=bB none p S:=bL (by kernel_rfl) p S
theorem bDz (p:V) (S:St):aB prog 220 p S=bB (some 3) p S:=bL (by kernel_rfl) p S
theorem bE0 (p:V) (S:St):aB prog 229 p S=bB none p S:=bL (by kernel_rfl) p S
theorem bE1 (p:V) (S:St):aB prog 232 p S=bB none p S:=bL (by kernel_rfl) p S
theorem bJb (p:V) (S:St):aB prog 24 p S=bB none p S:=bL (by kernel_rfl) p S
theorem bJc (p:V) (S:St):aB prog 25 p S=bB none p S:=bL (by kernel_rfl) p S
theorem bJd (p:V) (S:St):aB prog 26 p S=bB none p S:=bL (by kernel_rfl) p S
theorem bJe (p:V) (S:St):aB prog 27 p S=bB none p S:=bL (by kernel_rfl) p S
theorem bJf (p:V) (S:St):aB prog 28 p S=bB none p S:=bL (by kernel_rfl) p S
theorem ld3 (p:V) (S:St):aB prog 3 p S=bB none p S:=bL (by kernel_rfl) p S
theorem bJh (p:V) (S:St):aB prog 30 p S=bB (some 6) p S:=bL (by kernel_rfl) p S
theorem bJi (p:V) (S:St):aB prog 31 p S=bB none p S:=bL (by kernel_rfl) p S
theorem bE2 (p:V) (S:St):aB prog 346 p S=bB (some 2) p S:=bL (by kernel_rfl) p S
theorem bE3 (p:V) (S:St):aB prog 349 p S=bB none p S:=bL (by kernel_rfl) p S
theorem ld4 (p:V) (S:St):aB prog 4 p S=bB none p S:=bL (by kernel_rfl) p S
theorem bJj (p:V) (S:St):aB prog 48 p S=bB (some 3) p S:=bL (by kernel_rfl) p S
theorem ld5 (p:V) (S:St):aB prog 5 p S=bB none p S:=bL (by kernel_rfl) p S
theorem bJk (p:V) (S:St):aB prog 52 p S=bB (some 3) p S:=bL (by kernel_rfl) p S
theorem bJl (p:V) (S:St):aB prog 54 p S=bB (some 5) p S:=bL (by kernel_rfl) p S
theorem bJm (p:V) (S:St):aB prog 55 p S=bB none p S:=bL (by kernel_rfl) p S
theorem bJn (p:V) (S:St):aB prog 57 p S=bB (some 2) p S:=bL (by kernel_rfl) p S
theorem bJo (p:V) (S:St):aB prog 59 p S=bB (some 15) p S:=bL (by kernel_rfl) p S
theorem bJp (p:V) (S:St):aB prog 61 p S=bB (some 17) p S:=bL (by kernel_rfl) p S
theorem bJq (p:V) (S:St):aB prog 76 p S=bB (some 4) p S:=bL (by kernel_rfl) p S
theorem bJr (p:V) (S:St):aB prog 80 p S=bB none p S:=bL (by kernel_rfl) p S
theorem bJs (p:V) (S:St):aB prog 82 p S=bB (some 4) p S:=bL (by kernel_rfl) p S
theorem bJt (p:V) (S:St):aB prog 84 p S=bB (some 12) p S:=bL (by kernel_rfl) p S
theorem ld9 (p:V) (S:St):aB prog 9 p S=bB none p S:=bL (by kernel_rfl) p S
theorem bJu (p:V) (S:St):aB prog 90 p S=bB (some 2) p S:=bL (by kernel_rfl) p S
theorem bJv (p:V) (S:St):aB prog 99 p S=bB (some 23) p S:=bL (by kernel_rfl) p S
theorem bBg (x:V) (S:St):bH prog 102 x S=lenW x:=eI (by kernel_rfl) x S
theorem bBh (x:V) (S:St):bH prog 114 x S=lenW x:=eI (by kernel_rfl) x S
theorem bE4 (x:V) (S:St):bH prog 22 x S=lenW x:=eI (by kernel_rfl) x S
theorem bE5 (x:V) (S:St):bH prog 24 x S=lenW x:=eI (by kernel_rfl) x S
theorem bE6 (x:V) (S:St):bH prog 25 x S=lenW x:=eI (by kernel_rfl) x S
theorem bE7 (x:V) (S:St):bH prog 26 x S=lenW x:=eI (by kernel_rfl) x S
theorem bE8 (x:V) (S:St):bH prog 27 x S=lenW x:=eI (by kernel_rfl) x S
theorem bE9 (x:V) (S:St):bH prog 28 x S=lenW x:=eI (by kernel_rfl) x S
theorem bBi (x:V) (S:St):bH prog 361 x S=lenW x:=eI (by kernel_rfl) x S
theorem bBj (x:V) (S:St):bH prog 364 x S=lenW x:=eI (by kernel_rfl) x S
theorem bEa (x:V) (S:St):bH prog 44 x S=lenW x:=eI (by kernel_rfl) x S
theorem bEb (x:V) (S:St):bH prog 55 x S=lenW x:=eI (by kernel_rfl) x S
theorem bEc (x:V) (S:St):bH prog 62 x S=lenW x:=eI (by kernel_rfl) x S
theorem bEd (x:V) (S:St):bH prog 68 x S=lenW x:=eI (by kernel_rfl) x S
theorem bEe (x:V) (S:St):bH prog 71 x S=lenW x:=eI (by kernel_rfl) x S
theorem bEf (x:V) (S:St):bH prog 80 x S=lenW x:=eI (by kernel_rfl) x S
theorem bJw (s:List UInt8) (S:St):bH prog 9 (.str s) S=.ok (.int .i64 s.length):=aNd (by kernel_rfl) s S
theorem bEg (x:V) (S:St):bH prog 96 x S=lenW x:=eI (by kernel_rfl) x S
theorem bEh (x:V) (S:St):bH prog 97 x S=lenW x:=eI (by kernel_rfl) x S
theorem bJx (a ver off len : Nat) (lo hi : Option V) : cL prog 22 (.sl a ver 1 off len) lo hi = (match cK len lo hi with
      | .ok (l, h) => .ok (.sl a ver 1 (off + l) (h - l))
      | .error e => .error e) := fD (by kernel_rfl) a ver off len lo hi
theorem bJy (a ver off len : Nat) (lo hi : Option V) : cL prog 24 (.sl a ver 5 off len) lo hi = (match cK len lo hi with
      | .ok (l, h) => .ok (.sl a ver 5 (off + l) (h - l))
      | .error e => .error e) := fD (by kernel_rfl) a ver off len lo hi
theorem bJz (a ver off len : Nat) (lo hi : Option V) : cL prog 25 (.sl a ver 4 off len) lo hi = (match cK len lo hi with
      | .ok (l, h) => .ok (.sl a ver 4 (off + l) (h - l))
      | .error e => .error e) := fD (by kernel_rfl) a ver off len lo hi
theorem bK0 (a ver off len : Nat) (lo hi : Option V) : cL prog 26 (.sl a ver 12 off len) lo hi = (match cK len lo hi with
      | .ok (l, h) => .ok (.sl a ver 12 (off + l) (h - l))
      | .error e => .error e) := fD (by kernel_rfl) a ver off len lo hi
theorem bEi (es : List (List V)) (hl : iW 12 es = true) (lo hi : Option V) : cL prog 26 (.imm es) lo hi = (match cK es.length lo hi with
      | .ok (l, h) => .ok (.imm ((es.take h).drop l))
      | .error e => .error e) := aBi (by kernel_rfl) es hl lo hi
theorem bK1 (a ver off len : Nat) (lo hi : Option V) : cL prog 27 (.sl a ver 2 off len) lo hi = (match cK len lo hi with
      | .ok (l, h) => .ok (.sl a ver 2 (off + l) (h - l))
      | .error e => .error e) := fD (by kernel_rfl) a ver off len lo hi
theorem bK2 (a ver off len : Nat) (lo hi : Option V) : cL prog 28 (.sl a ver 5 off len) lo hi = (match cK len lo hi with
      | .ok (l, h) => .ok (.sl a ver 5 (off + l) (h - l))
      | .error e => .error e) := fD (by kernel_rfl) a ver off len lo hi
theorem bK3 (a ver off len : Nat) (lo hi : Option V) : cL prog 55 (.sl a ver 4 off len) lo hi = (match cK len lo hi with
      | .ok (l, h) => .ok (.sl a ver 4 (off + l) (h - l))
      | .error e => .error e) := fD (by kernel_rfl) a ver off len lo hi
theorem bEj (es : List (List V)) (hl : iW 4 es = true) (lo hi : Option V) : cL prog 55 (.imm es) lo hi = (match cK es.length lo hi with
      | .ok (l, h) => .ok (.imm ((es.take h).drop l))
      | .error e => .error e) := aBi (by kernel_rfl) es hl lo hi
theorem bK4 (a ver off len : Nat) (lo hi : Option V) : cL prog 71 (.sl a ver 4 off len) lo hi = (match cK len lo hi with
      | .ok (l, h) => .ok (.sl a ver 4 (off + l) (h - l))
      | .error e => .error e) := fD (by kernel_rfl) a ver off len lo hi
theorem bK5 (a ver off len : Nat) (lo hi : Option V) : cL prog 80 (.sl a ver 4 off len) lo hi = (match cK len lo hi with
      | .ok (l, h) => .ok (.sl a ver 4 (off + l) (h - l))
      | .error e => .error e) := fD (by kernel_rfl) a ver off len lo hi
theorem bK6 (a ver off len : Nat) (lo hi : Option V) : cL prog 96 (.sl a ver 1 off len) lo hi = (match cK len lo hi with
      | .ok (l, h) => .ok (.sl a ver 1 (off + l) (h - l))
      | .error e => .error e) := fD (by kernel_rfl) a ver off len lo hi
theorem bK7 (a ver off len : Nat) (lo hi : Option V) : cL prog 97 (.sl a ver 23 off len) lo hi = (match cK len lo hi with
      | .ok (l, h) => .ok (.sl a ver 23 (off + l) (h - l))
      | .error e => .error e) := fD (by kernel_rfl) a ver off len lo hi
theorem bEk (p x:V) (S:St):aH prog 126 p x S=aV 4 p x S:=bJ (by kernel_rfl) p x S
theorem bEl (p x:V) (S:St):aH prog 132 p x S=aV 5 p x S:=bJ (by kernel_rfl) p x S
theorem bEm (p x:V) (S:St):aH prog 145 p x S=aV 4 p x S:=bJ (by kernel_rfl) p x S
theorem bEn (p x:V) (S:St):aH prog 201 p x S=aV 4 p x S:=bJ (by kernel_rfl) p x S
theorem bEo (p x:V) (S:St):aH prog 212 p x S=aV 1 p x S:=bJ (by kernel_rfl) p x S
theorem bK8 (p x:V) (S:St):aH prog 22 p x S=aV 1 p x S:=bJ (by kernel_rfl) p x S
theorem bEp (p x:V) (S:St):aH prog 220 p x S=aV 3 p x S:=bJ (by kernel_rfl) p x S
theorem bEq (p x:V) (S:St):aH prog 232 p x S=aV 1 p x S:=bJ (by kernel_rfl) p x S
theorem bK9 (p x:V) (S:St):aH prog 24 p x S=aV 1 p x S:=bJ (by kernel_rfl) p x S
theorem bKa (p x:V) (S:St):aH prog 25 p x S=aV 1 p x S:=bJ (by kernel_rfl) p x S
theorem bKb (p x:V) (S:St):aH prog 26 p x S=aV 1 p x S:=bJ (by kernel_rfl) p x S
theorem bKc (p x:V) (S:St):aH prog 27 p x S=aV 1 p x S:=bJ (by kernel_rfl) p x S
theorem bKd (p x:V) (S:St):aH prog 28 p x S=aV 1 p x S:=bJ (by kernel_rfl) p x S
theorem st3 (p x:V) (S:St):aH prog 3 p x S=aV 1 p x S:=bJ (by kernel_rfl) p x S
theorem bKe (p x:V) (S:St):aH prog 30 p x S=aV 6 p x S:=bJ (by kernel_rfl) p x S
theorem bKf (p x:V) (S:St):aH prog 31 p x S=aV 1 p x S:=bJ (by kernel_rfl) p x S
theorem bEr (p x:V) (S:St):aH prog 346 p x S=aV 2 p x S:=bJ (by kernel_rfl) p x S
theorem st4 (p x:V) (S:St):aH prog 4 p x S=aV 1 p x S:=bJ (by kernel_rfl) p x S
theorem bKg (p x:V) (S:St):aH prog 48 p x S=aV 3 p x S:=bJ (by kernel_rfl) p x S
theorem st5 (p x:V) (S:St):aH prog 5 p x S=aV 1 p x S:=bJ (by kernel_rfl) p x S
theorem bKh (p x:V) (S:St):aH prog 52 p x S=aV 3 p x S:=bJ (by kernel_rfl) p x S
theorem bKi (p x:V) (S:St):aH prog 54 p x S=aV 5 p x S:=bJ (by kernel_rfl) p x S
theorem bKj (p x:V) (S:St):aH prog 55 p x S=aV 1 p x S:=bJ (by kernel_rfl) p x S
theorem bKk (p x:V) (S:St):aH prog 57 p x S=aV 2 p x S:=bJ (by kernel_rfl) p x S
theorem bKl (p x:V) (S:St):aH prog 59 p x S=aV 15 p x S:=bJ (by kernel_rfl) p x S
theorem bKm (p x:V) (S:St):aH prog 61 p x S=aV 17 p x S:=bJ (by kernel_rfl) p x S
theorem bKn (p x:V) (S:St):aH prog 80 p x S=aV 1 p x S:=bJ (by kernel_rfl) p x S
theorem bKo (p x:V) (S:St):aH prog 82 p x S=aV 4 p x S:=bJ (by kernel_rfl) p x S
theorem bKp (p x:V) (S:St):aH prog 84 p x S=aV 12 p x S:=bJ (by kernel_rfl) p x S
theorem st9 (p x:V) (S:St):aH prog 9 p x S=aV 1 p x S:=bJ (by kernel_rfl) p x S
theorem bKq (p x:V) (S:St):aH prog 90 p x S=aV 2 p x S:=bJ (by kernel_rfl) p x S
theorem bKr (p x:V) (S:St):aH prog 99 p x S=aV 23 p x S:=bJ (by kernel_rfl) p x S
def dVl:List Nat:=[3,4,5,6,7,8,9,10,11,12,13,14,15,16,17,18,19,21,22,23,24,25,26,27,28,29,30,31,32,33,34,35,36,37,38,40,41,42,43,44,45,46,47,48,49,50,51,52,53,54,55,56,57,58,59,62,64,68,69,70,73,74,75,76,77,78,80,81,82,83,84,85,86,87,88,89,90,91,92,93,94,95,96,97,98,99,100,101,103,104,105,107,108,109,110,111,112,113,114,115,116,117,118,119,120,121,122,123,124,126,127,128,129,130,131,132,133,134,135,136,137,138,139,140,141,142,143,144,145,146,147,148,150,151,152,153,155,156,157,158,159,160,161,162,163,164,165,166,167,168,169,170,171,172,173,174,175,177,178,182,185,186,187,188,189,190,191,192,193,194,195,196,197,198,199,200,201,203,204,205,206,207,208,209,210,211,212,213,214,215,216,217,218,219,220,222,223,224,225,226,227,228,229,231,232,233,236,238,241,242,243,244,245,246,249,250,251,252,253,254,258,260,263,268,271,273,278,279,286,287,307,308,309,310,311,312,313,314]
def dOl:List (Nat×List Nat):=[(235,[0]),(102,[2])]
noncomputable def uU:eX:=rU prog dSp aSs dVl dOl
noncomputable abbrev C:aD:=W prog uU
abbrev Fv (f:Nat) (args:List V) (v:V):Prop:=Go.AM.Fn prog uU f args v
abbrev Fr (f:Nat) (mk:Nat→List V) (n:Nat) (pre:List V) (v:V) (post:List V):Prop:=Go.AM.FnR prog uU f mk 0 n [pre] v [post]
theorem t9 (C:aD) (a0 a1:V) (S:St) (K:KW):aM prog C (bC 9) (bE 9) 9 [a0,a1] S K=m9 C a0 a1 S K:=congrFun (congrFun (congrFun (congrFun (congrFun bCi C) a0) a1) S) K
theorem v9 {a0 a1:V} {v:V} (hc:cloVs [a0,a1]=true) (h:m9 C a0 a1 ⟨0,.nil⟩ fun v0 S0=>cC S0 v0=.ok v):Fv 9 [a0,a1] v:=Go.AM.Fn.of (p:=bC 9) (lv:=bE 9) (by kernel_rfl) hc (by rw [t9];exact h)
theorem t24 (C:aD) (a0:V) (S:St) (K:KW):aM prog C (bC 24) (bE 24) 24 [a0] S K=m24 C a0 S K:=congrFun (congrFun (congrFun (congrFun aZ6 C) a0) S) K
theorem v24 {a0:V} {v:V} (hc:cloVs [a0]=true) (h:m24 C a0 ⟨0,.nil⟩ fun v0 S0=>cC S0 v0=.ok v):Fv 24 [a0] v:=Go.AM.Fn.of (p:=bC 24) (lv:=bE 24) (by kernel_rfl) hc (by rw [t24];exact h)
theorem bKs:uU 24=some (.val (bC 24)):=by kernel_rfl
theorem t30 (C:aD) (a0 a1:V) (S:St) (K:KW):aM prog C (bC 30) (bE 30) 30 [a0,a1] S K=m30 C a0 a1 S K:=congrFun (congrFun (congrFun (congrFun (congrFun aZ7 C) a0) a1) S) K
theorem v30 {a0 a1:V} {v:V} (hc:cloVs [a0,a1]=true) (h:m30 C a0 a1 ⟨0,.nil⟩ fun v0 S0=>cC S0 v0=.ok v):Fv 30 [a0,a1] v:=Go.AM.Fn.of (p:=bC 30) (lv:=bE 30) (by kernel_rfl) hc (by rw [t30];exact h)
theorem t31 (C:aD) (S:St) (K:KW):aM prog C (bC 31) (bE 31) 31 [] S K=m31 C S K:=congrFun (congrFun (congrFun aZ8 C) S) K
theorem v31 {v:V} (hc:cloVs []=true) (h:m31 C ⟨0,.nil⟩ fun v0 S0=>cC S0 v0=.ok v):Fv 31 [] v:=Go.AM.Fn.of (p:=bC 31) (lv:=bE 31) (by kernel_rfl) hc (by rw [t31];exact h)
theorem t33 (C:aD) (a0 a1:V) (S:St) (K:KW):aM prog C (bC 33) (bE 33) 33 [a0,a1] S K=m33 C a0 a1 S K:=congrFun (congrFun (congrFun (congrFun (congrFun aZ9 C) a0) a1) S) K
theorem v33 {a0 a1:V} {v:V} (hc:cloVs [a0,a1]=true) (h:m33 C a0 a1 ⟨0,.nil⟩ fun v0 S0=>cC S0 v0=.ok v):Fv 33 [a0,a1] v:=Go.AM.Fn.of (p:=bC 33) (lv:=bE 33) (by kernel_rfl) hc (by rw [t33];exact h)
theorem bKt:uU 33=some (.val (bC 33)):=by kernel_rfl
theorem t35 (C:aD) (a0 a1:V) (S:St) (K:KW):aM prog C (bC 35) (bE 35) 35 [a0,a1] S K=m35 C a0 a1 S K:=congrFun (congrFun (congrFun (congrFun (congrFun aZa C) a0) a1) S) K
theorem v35 {a0 a1:V} {v:V} (hc:cloVs [a0,a1]=true) (h:m35 C a0 a1 ⟨0,.nil⟩ fun v0 S0=>cC S0 v0=.ok v):Fv 35 [a0,a1] v:=Go.AM.Fn.of (p:=bC 35) (lv:=bE 35) (by kernel_rfl) hc (by rw [t35];exact h)
theorem bKu:uU 35=some (.val (bC 35)):=by kernel_rfl
theorem t40 (C:aD) (a0 a1 a2:V) (S:St) (K:KW):aM prog C (bC 40) (bE 40) 40 [a0,a1,a2] S K=m40 C a0 a1 a2 S K:=congrFun (congrFun (congrFun (congrFun (congrFun (congrFun aZb C) a0) a1) a2) S) K
theorem v40 {a0 a1 a2:V} {v:V} (hc:cloVs [a0,a1,a2]=true) (h:m40 C a0 a1 a2 ⟨0,.nil⟩ fun v0 S0=>cC S0 v0=.ok v):Fv 40 [a0,a1,a2] v:=Go.AM.Fn.of (p:=bC 40) (lv:=bE 40) (by kernel_rfl) hc (by rw [t40];exact h)
theorem t42 (C:aD) (a0:V) (S:St) (K:KW):aM prog C (bC 42) (bE 42) 42 [a0] S K=m42 C a0 S K:=congrFun (congrFun (congrFun (congrFun aZc C) a0) S) K
theorem v42 {a0:V} {v:V} (hc:cloVs [a0]=true) (h:m42 C a0 ⟨0,.nil⟩ fun v0 S0=>cC S0 v0=.ok v):Fv 42 [a0] v:=Go.AM.Fn.of (p:=bC 42) (lv:=bE 42) (by kernel_rfl) hc (by rw [t42];exact h)
theorem bKv:uU 42=some (.val (bC 42)):=by kernel_rfl
theorem t44 (C:aD) (S:St) (K:KW):aM prog C (bC 44) (bE 44) 44 [] S K=m44 C S K:=congrFun (congrFun (congrFun aZd C) S) K
theorem v44 {v:V} (hc:cloVs []=true) (h:m44 C ⟨0,.nil⟩ fun v0 S0=>cC S0 v0=.ok v):Fv 44 [] v:=Go.AM.Fn.of (p:=bC 44) (lv:=bE 44) (by kernel_rfl) hc (by rw [t44];exact h)
theorem t46 (C:aD) (a0:V) (S:St) (K:KW):aM prog C (bC 46) (bE 46) 46 [a0] S K=m46 C a0 S K:=congrFun (congrFun (congrFun (congrFun aZe C) a0) S) K
theorem v46 {a0:V} {v:V} (hc:cloVs [a0]=true) (h:m46 C a0 ⟨0,.nil⟩ fun v0 S0=>cC S0 v0=.ok v):Fv 46 [a0] v:=Go.AM.Fn.of (p:=bC 46) (lv:=bE 46) (by kernel_rfl) hc (by rw [t46];exact h)
theorem t47 (C:aD) (a0 a1:V) (S:St) (K:KW):aM prog C (bC 47) (bE 47) 47 [a0,a1] S K=m47 C a0 a1 S K:=congrFun (congrFun (congrFun (congrFun (congrFun aZf C) a0) a1) S) K
theorem v47 {a0 a1:V} {v:V} (hc:cloVs [a0,a1]=true) (h:m47 C a0 a1 ⟨0,.nil⟩ fun v0 S0=>cC S0 v0=.ok v):Fv 47 [a0,a1] v:=Go.AM.Fn.of (p:=bC 47) (lv:=bE 47) (by kernel_rfl) hc (by rw [t47];exact h)
theorem t85 (C:aD) (a0:V) (S:St) (K:KW):aM prog C (bC 85) (bE 85) 85 [a0] S K=m85 C a0 S K:=congrFun (congrFun (congrFun (congrFun aZg C) a0) S) K
theorem v85 {a0:V} {v:V} (hc:cloVs [a0]=true) (h:m85 C a0 ⟨0,.nil⟩ fun v0 S0=>cC S0 v0=.ok v):Fv 85 [a0] v:=Go.AM.Fn.of (p:=bC 85) (lv:=bE 85) (by kernel_rfl) hc (by rw [t85];exact h)
theorem t86 (C:aD) (a0:V) (S:St) (K:KW):aM prog C (bC 86) (bE 86) 86 [a0] S K=m86 C a0 S K:=congrFun (congrFun (congrFun (congrFun aZh C) a0) S) K
theorem v86 {a0:V} {v:V} (hc:cloVs [a0]=true) (h:m86 C a0 ⟨0,.nil⟩ fun v0 S0=>cC S0 v0=.ok v):Fv 86 [a0] v:=Go.AM.Fn.of (p:=bC 86) (lv:=bE 86) (by kernel_rfl) hc (by rw [t86];exact h)
theorem t87 (C:aD) (a0:V) (S:St) (K:KW):aM prog C (bC 87) (bE 87) 87 [a0] S K=m87 C a0 S K:=congrFun (congrFun (congrFun (congrFun aZi C) a0) S) K
theorem v87 {a0:V} {v:V} (hc:cloVs [a0]=true) (h:m87 C a0 ⟨0,.nil⟩ fun v0 S0=>cC S0 v0=.ok v):Fv 87 [a0] v:=Go.AM.Fn.of (p:=bC 87) (lv:=bE 87) (by kernel_rfl) hc (by rw [t87];exact h)
theorem t88 (C:aD) (a0:V) (S:St) (K:KW):aM prog C (bC 88) (bE 88) 88 [a0] S K=m88 C a0 S K:=congrFun (congrFun (congrFun (congrFun aZj C) a0) S) K
theorem v88 {a0:V} {v:V} (hc:cloVs [a0]=true) (h:m88 C a0 ⟨0,.nil⟩ fun v0 S0=>cC S0 v0=.ok v):Fv 88 [a0] v:=Go.AM.Fn.of (p:=bC 88) (lv:=bE 88) (by kernel_rfl) hc (by rw [t88];exact h)
theorem t89 (C:aD) (a0:V) (S:St) (K:KW):aM prog C (bC 89) (bE 89) 89 [a0] S K=m89 C a0 S K:=congrFun (congrFun (congrFun (congrFun aZk C) a0) S) K
theorem v89 {a0:V} {v:V} (hc:cloVs [a0]=true) (h:m89 C a0 ⟨0,.nil⟩ fun v0 S0=>cC S0 v0=.ok v):Fv 89 [a0] v:=Go.AM.Fn.of (p:=bC 89) (lv:=bE 89) (by kernel_rfl) hc (by rw [t89];exact h)
theorem t90 (C:aD) (a0:V) (S:St) (K:KW):aM prog C (bC 90) (bE 90) 90 [a0] S K=m90 C a0 S K:=congrFun (congrFun (congrFun (congrFun aZl C) a0) S) K
theorem v90 {a0:V} {v:V} (hc:cloVs [a0]=true) (h:m90 C a0 ⟨0,.nil⟩ fun v0 S0=>cC S0 v0=.ok v):Fv 90 [a0] v:=Go.AM.Fn.of (p:=bC 90) (lv:=bE 90) (by kernel_rfl) hc (by rw [t90];exact h)
theorem t91 (C:aD) (a0 a1:V) (S:St) (K:KW):aM prog C (bC 91) (bE 91) 91 [a0,a1] S K=m91 C a0 a1 S K:=congrFun (congrFun (congrFun (congrFun (congrFun aZm C) a0) a1) S) K
theorem v91 {a0 a1:V} {v:V} (hc:cloVs [a0,a1]=true) (h:m91 C a0 a1 ⟨0,.nil⟩ fun v0 S0=>cC S0 v0=.ok v):Fv 91 [a0,a1] v:=Go.AM.Fn.of (p:=bC 91) (lv:=bE 91) (by kernel_rfl) hc (by rw [t91];exact h)
theorem t102 (C:aD) (a0:V) (S:St) (K:KW):aM prog C (bC 102) (bE 102) 102 [a0] S K=aSt C a0 S K:=congrFun (congrFun (congrFun (congrFun aSu C) a0) S) K
theorem bKw {a0:V} {S:St} {K:KW} (hc:cloVs [a0]=true) (h:aSt C a0 ⟨0,.nil⟩ fun v0 S0=>wR (pK [2] v0 S0 S) fun r=>K r.1 r.2):C 102 [a0] S K:=aYe (p:=bC 102) (lv:=bE 102) (by kernel_rfl) hc (by rw [t102];exact h)
theorem t103 (C:aD) (a0:V) (S:St) (K:KW):aM prog C (bC 103) (bE 103) 103 [a0] S K=aSv C a0 S K:=congrFun (congrFun (congrFun (congrFun aSw C) a0) S) K
theorem bKx {a0:V} {v:V} (hc:cloVs [a0]=true) (h:aSv C a0 ⟨0,.nil⟩ fun v0 S0=>cC S0 v0=.ok v):Fv 103 [a0] v:=Go.AM.Fn.of (p:=bC 103) (lv:=bE 103) (by kernel_rfl) hc (by rw [t103];exact h)
theorem t104 (C:aD) (a0:V) (S:St) (K:KW):aM prog C (bC 104) (bE 104) 104 [a0] S K=aSx C a0 S K:=congrFun (congrFun (congrFun (congrFun aSy C) a0) S) K
theorem bKy {a0:V} {v:V} (hc:cloVs [a0]=true) (h:aSx C a0 ⟨0,.nil⟩ fun v0 S0=>cC S0 v0=.ok v):Fv 104 [a0] v:=Go.AM.Fn.of (p:=bC 104) (lv:=bE 104) (by kernel_rfl) hc (by rw [t104];exact h)
theorem bEs:uU 104=some (.val (bC 104)):=by kernel_rfl
theorem bKz (C:aD) (a0 a1 a2:V) (S:St) (K:KW):aM prog C (bC 105) (bE 105) 105 [a0,a1,a2] S K=aSz C a0 a1 a2 S K:=congrFun (congrFun (congrFun (congrFun (congrFun (congrFun aT0 C) a0) a1) a2) S) K
theorem bL0 {a0 a1 a2:V} {v:V} (hc:cloVs [a0,a1,a2]=true) (h:aSz C a0 a1 a2 ⟨0,.nil⟩ fun v0 S0=>cC S0 v0=.ok v):Fv 105 [a0,a1,a2] v:=Go.AM.Fn.of (p:=bC 105) (lv:=bE 105) (by kernel_rfl) hc (by rw [bKz];exact h)
theorem bL1 (C:aD) (a0 a1:V) (S:St) (K:KW):aM prog C (bC 106) (bE 106) 106 [a0,a1] S K=aT1 C a0 a1 S K:=congrFun (congrFun (congrFun (congrFun (congrFun aT2 C) a0) a1) S) K
theorem bL2 {a0 a1:V} {S:St} {K:KW} (h:aT1 C a0 a1 S K):C 106 [a0,a1] S K:=lA (p:=bC 106) (lv:=bE 106) (by kernel_rfl) (by rw [bL1];exact h)
theorem bL3 (C:aD) (a0 a1 a2 a3:V) (S:St) (K:KW):aM prog C (bC 107) (bE 107) 107 [a0,a1,a2,a3] S K=aT3 C a0 a1 a2 a3 S K:=congrFun (congrFun (congrFun (congrFun (congrFun (congrFun (congrFun aT4 C) a0) a1) a2) a3) S) K
theorem bL4 {a0 a1 a2 a3:V} {v:V} (hc:cloVs [a0,a1,a2,a3]=true) (h:aT3 C a0 a1 a2 a3 ⟨0,.nil⟩ fun v0 S0=>cC S0 v0=.ok v):Fv 107 [a0,a1,a2,a3] v:=Go.AM.Fn.of (p:=bC 107) (lv:=bE 107) (by kernel_rfl) hc (by rw [bL3];exact h)
theorem bL5 (C:aD) (a0:V) (S:St) (K:KW):aM prog C (bC 123) (bE 123) 123 [a0] S K=aT5 C a0 S K:=congrFun (congrFun (congrFun (congrFun aT6 C) a0) S) K
theorem bL6 {a0:V} {v:V} (hc:cloVs [a0]=true) (h:aT5 C a0 ⟨0,.nil⟩ fun v0 S0=>cC S0 v0=.ok v):Fv 123 [a0] v:=Go.AM.Fn.of (p:=bC 123) (lv:=bE 123) (by kernel_rfl) hc (by rw [bL5];exact h)
theorem bL7 (C:aD) (a0 a1:V) (S:St) (K:KW):aM prog C (bC 124) (bE 124) 124 [a0,a1] S K=aT7 C a0 a1 S K:=congrFun (congrFun (congrFun (congrFun (congrFun aT8 C) a0) a1) S) K
theorem bL8 {a0 a1:V} {v:V} (hc:cloVs [a0,a1]=true) (h:aT7 C a0 a1 ⟨0,.nil⟩ fun v0 S0=>cC S0 v0=.ok v):Fv 124 [a0,a1] v:=Go.AM.Fn.of (p:=bC 124) (lv:=bE 124) (by kernel_rfl) hc (by rw [bL7];exact h)
theorem bL9 (C:aD) (a0 a1:V) (S:St) (K:KW):aM prog C (bC 125) (bE 125) 125 [a0,a1] S K=aT9 C a0 a1 S K:=congrFun (congrFun (congrFun (congrFun (congrFun aTa C) a0) a1) S) K
theorem bLa {a0 a1:V} {S:St} {K:KW} (h:aT9 C a0 a1 S K):C 125 [a0,a1] S K:=lA (p:=bC 125) (lv:=bE 125) (by kernel_rfl) (by rw [bL9];exact h)
theorem bLb (C:aD) (a0:V) (S:St) (K:KW):aM prog C (bC 128) (bE 128) 128 [a0] S K=aTb C a0 S K:=congrFun (congrFun (congrFun (congrFun aTc C) a0) S) K
theorem bLc {a0:V} {v:V} (hc:cloVs [a0]=true) (h:aTb C a0 ⟨0,.nil⟩ fun v0 S0=>cC S0 v0=.ok v):Fv 128 [a0] v:=Go.AM.Fn.of (p:=bC 128) (lv:=bE 128) (by kernel_rfl) hc (by rw [bLb];exact h)
theorem bLd (C:aD) (a0 a1:V) (S:St) (K:KW):aM prog C (bC 129) (bE 129) 129 [a0,a1] S K=aTd C a0 a1 S K:=congrFun (congrFun (congrFun (congrFun (congrFun aTe C) a0) a1) S) K
theorem bLe {a0 a1:V} {v:V} (hc:cloVs [a0,a1]=true) (h:aTd C a0 a1 ⟨0,.nil⟩ fun v0 S0=>cC S0 v0=.ok v):Fv 129 [a0,a1] v:=Go.AM.Fn.of (p:=bC 129) (lv:=bE 129) (by kernel_rfl) hc (by rw [bLd];exact h)
theorem bLf (C:aD) (a0 a1:V) (S:St) (K:KW):aM prog C (bC 130) (bE 130) 130 [a0,a1] S K=aTf C a0 a1 S K:=congrFun (congrFun (congrFun (congrFun (congrFun aTg C) a0) a1) S) K
theorem bLg {a0 a1:V} {v:V} (hc:cloVs [a0,a1]=true) (h:aTf C a0 a1 ⟨0,.nil⟩ fun v0 S0=>cC S0 v0=.ok v):Fv 130 [a0,a1] v:=Go.AM.Fn.of (p:=bC 130) (lv:=bE 130) (by kernel_rfl) hc (by rw [bLf];exact h)
theorem bEt:uU 130=some (.val (bC 130)):=by kernel_rfl
theorem bLh (C:aD) (a0:V) (S:St) (K:KW):aM prog C (bC 131) (bE 131) 131 [a0] S K=aTh C a0 S K:=congrFun (congrFun (congrFun (congrFun aTi C) a0) S) K
theorem bLi {a0:V} {v:V} (hc:cloVs [a0]=true) (h:aTh C a0 ⟨0,.nil⟩ fun v0 S0=>cC S0 v0=.ok v):Fv 131 [a0] v:=Go.AM.Fn.of (p:=bC 131) (lv:=bE 131) (by kernel_rfl) hc (by rw [bLh];exact h)
theorem bLj (C:aD) (a0 a1:V) (S:St) (K:KW):aM prog C (bC 132) (bE 132) 132 [a0,a1] S K=aTj C a0 a1 S K:=congrFun (congrFun (congrFun (congrFun (congrFun aTk C) a0) a1) S) K
theorem bLk {a0 a1:V} {v:V} (hc:cloVs [a0,a1]=true) (h:aTj C a0 a1 ⟨0,.nil⟩ fun v0 S0=>cC S0 v0=.ok v):Fv 132 [a0,a1] v:=Go.AM.Fn.of (p:=bC 132) (lv:=bE 132) (by kernel_rfl) hc (by rw [bLj];exact h)
theorem bLl (C:aD) (a0 a1:V) (S:St) (K:KW):aM prog C (bC 152) (bE 152) 152 [a0,a1] S K=aZn C a0 a1 S K:=congrFun (congrFun (congrFun (congrFun (congrFun aTl C) a0) a1) S) K
theorem bEu:uU 152=some (.val (bC 152)):=by kernel_rfl
theorem bLm (C:aD) (a0 a1:V) (S:St) (K:KW):aM prog C (bC 155) (bE 155) 155 [a0,a1] S K=aZo C a0 a1 S K:=congrFun (congrFun (congrFun (congrFun (congrFun aTm C) a0) a1) S) K
theorem bEv:uU 155=some (.val (bC 155)):=by kernel_rfl
theorem bLn (C:aD) (a0:V) (S:St) (K:KW):aM prog C (bC 157) (bE 157) 157 [a0] S K=aTn C a0 S K:=congrFun (congrFun (congrFun (congrFun aTo C) a0) S) K
theorem bLo {a0:V} {v:V} (hc:cloVs [a0]=true) (h:aTn C a0 ⟨0,.nil⟩ fun v0 S0=>cC S0 v0=.ok v):Fv 157 [a0] v:=Go.AM.Fn.of (p:=bC 157) (lv:=bE 157) (by kernel_rfl) hc (by rw [bLn];exact h)
theorem bLp (C:aD) (a0 a1:V) (S:St) (K:KW):aM prog C (bC 158) (bE 158) 158 [a0,a1] S K=aTp C a0 a1 S K:=congrFun (congrFun (congrFun (congrFun (congrFun aTq C) a0) a1) S) K
theorem bLq {a0 a1:V} {v:V} (hc:cloVs [a0,a1]=true) (h:aTp C a0 a1 ⟨0,.nil⟩ fun v0 S0=>cC S0 v0=.ok v):Fv 158 [a0,a1] v:=Go.AM.Fn.of (p:=bC 158) (lv:=bE 158) (by kernel_rfl) hc (by rw [bLp];exact h)
theorem bEw:uU 158=some (.val (bC 158)):=by kernel_rfl
theorem bLr (C:aD) (a0:V) (S:St) (K:KW):aM prog C (bC 163) (bE 163) 163 [a0] S K=aTr C a0 S K:=congrFun (congrFun (congrFun (congrFun aTs C) a0) S) K
theorem bLs {a0:V} {v:V} (hc:cloVs [a0]=true) (h:aTr C a0 ⟨0,.nil⟩ fun v0 S0=>cC S0 v0=.ok v):Fv 163 [a0] v:=Go.AM.Fn.of (p:=bC 163) (lv:=bE 163) (by kernel_rfl) hc (by rw [bLr];exact h)
theorem bLt (C:aD) (a0 a1:V) (S:St) (K:KW):aM prog C (bC 164) (bE 164) 164 [a0,a1] S K=aTt C a0 a1 S K:=congrFun (congrFun (congrFun (congrFun (congrFun aTu C) a0) a1) S) K
theorem bLu {a0 a1:V} {v:V} (hc:cloVs [a0,a1]=true) (h:aTt C a0 a1 ⟨0,.nil⟩ fun v0 S0=>cC S0 v0=.ok v):Fv 164 [a0,a1] v:=Go.AM.Fn.of (p:=bC 164) (lv:=bE 164) (by kernel_rfl) hc (by rw [bLt];exact h)
theorem bLv (C:aD) (a0:V) (S:St) (K:KW):aM prog C (bC 165) (bE 165) 165 [a0] S K=aTv C a0 S K:=congrFun (congrFun (congrFun (congrFun aTw C) a0) S) K
theorem bLw {a0:V} {v:V} (hc:cloVs [a0]=true) (h:aTv C a0 ⟨0,.nil⟩ fun v0 S0=>cC S0 v0=.ok v):Fv 165 [a0] v:=Go.AM.Fn.of (p:=bC 165) (lv:=bE 165) (by kernel_rfl) hc (by rw [bLv];exact h)
theorem bLx (C:aD) (a0:V) (S:St) (K:KW):aM prog C (bC 166) (bE 166) 166 [a0] S K=aTx C a0 S K:=congrFun (congrFun (congrFun (congrFun aTy C) a0) S) K
theorem bLy {a0:V} {v:V} (hc:cloVs [a0]=true) (h:aTx C a0 ⟨0,.nil⟩ fun v0 S0=>cC S0 v0=.ok v):Fv 166 [a0] v:=Go.AM.Fn.of (p:=bC 166) (lv:=bE 166) (by kernel_rfl) hc (by rw [bLx];exact h)
theorem bLz (C:aD) (a0:V) (S:St) (K:KW):aM prog C (bC 167) (bE 167) 167 [a0] S K=aTz C a0 S K:=congrFun (congrFun (congrFun (congrFun aU0 C) a0) S) K
theorem bM0 {a0:V} {v:V} (hc:cloVs [a0]=true) (h:aTz C a0 ⟨0,.nil⟩ fun v0 S0=>cC S0 v0=.ok v):Fv 167 [a0] v:=Go.AM.Fn.of (p:=bC 167) (lv:=bE 167) (by kernel_rfl) hc (by rw [bLz];exact h)
theorem bM1 (C:aD) (a0 a1:V) (S:St) (K:KW):aM prog C (bC 168) (bE 168) 168 [a0,a1] S K=aU1 C a0 a1 S K:=congrFun (congrFun (congrFun (congrFun (congrFun aU2 C) a0) a1) S) K
theorem bM2 {a0 a1:V} {v:V} (hc:cloVs [a0,a1]=true) (h:aU1 C a0 a1 ⟨0,.nil⟩ fun v0 S0=>cC S0 v0=.ok v):Fv 168 [a0,a1] v:=Go.AM.Fn.of (p:=bC 168) (lv:=bE 168) (by kernel_rfl) hc (by rw [bM1];exact h)
theorem bEx:uU 168=some (.val (bC 168)):=by kernel_rfl
theorem bM3 (C:aD) (a0 a1:V) (S:St) (K:KW):aM prog C (bC 169) (bE 169) 169 [a0,a1] S K=aU3 C a0 a1 S K:=congrFun (congrFun (congrFun (congrFun (congrFun aU4 C) a0) a1) S) K
theorem bM4 {a0 a1:V} {v:V} (hc:cloVs [a0,a1]=true) (h:aU3 C a0 a1 ⟨0,.nil⟩ fun v0 S0=>cC S0 v0=.ok v):Fv 169 [a0,a1] v:=Go.AM.Fn.of (p:=bC 169) (lv:=bE 169) (by kernel_rfl) hc (by rw [bM3];exact h)
theorem bM5 (C:aD) (a0 a1:V) (S:St) (K:KW):aM prog C (bC 170) (bE 170) 170 [a0,a1] S K=aZp C a0 a1 S K:=congrFun (congrFun (congrFun (congrFun (congrFun aU5 C) a0) a1) S) K
theorem bEy:uU 170=some (.val (bC 170)):=by kernel_rfl
theorem bM6 (C:aD) (a0 a1:V) (S:St) (K:KW):aM prog C (bC 173) (bE 173) 173 [a0,a1] S K=aU6 C a0 a1 S K:=congrFun (congrFun (congrFun (congrFun (congrFun aU7 C) a0) a1) S) K
theorem bM7 {a0 a1:V} {v:V} (hc:cloVs [a0,a1]=true) (h:aU6 C a0 a1 ⟨0,.nil⟩ fun v0 S0=>cC S0 v0=.ok v):Fv 173 [a0,a1] v:=Go.AM.Fn.of (p:=bC 173) (lv:=bE 173) (by kernel_rfl) hc (by rw [bM6];exact h)
theorem bM8 (C:aD) (a0 a1:V) (S:St) (K:KW):aM prog C (bC 174) (bE 174) 174 [a0,a1] S K=aU8 C a0 a1 S K:=congrFun (congrFun (congrFun (congrFun (congrFun aU9 C) a0) a1) S) K
theorem bM9 {a0 a1:V} {v:V} (hc:cloVs [a0,a1]=true) (h:aU8 C a0 a1 ⟨0,.nil⟩ fun v0 S0=>cC S0 v0=.ok v):Fv 174 [a0,a1] v:=Go.AM.Fn.of (p:=bC 174) (lv:=bE 174) (by kernel_rfl) hc (by rw [bM8];exact h)
theorem bEz:uU 174=some (.val (bC 174)):=by kernel_rfl
theorem bMa (C:aD) (a0 a1 a2:V) (S:St) (K:KW):aM prog C (bC 175) (bE 175) 175 [a0,a1,a2] S K=aUa C a0 a1 a2 S K:=congrFun (congrFun (congrFun (congrFun (congrFun (congrFun aUb C) a0) a1) a2) S) K
theorem bMb {a0 a1 a2:V} {v:V} (hc:cloVs [a0,a1,a2]=true) (h:aUa C a0 a1 a2 ⟨0,.nil⟩ fun v0 S0=>cC S0 v0=.ok v):Fv 175 [a0,a1,a2] v:=Go.AM.Fn.of (p:=bC 175) (lv:=bE 175) (by kernel_rfl) hc (by rw [bMa];exact h)
theorem bMc (C:aD) (a0 a1 a2:V) (S:St) (K:KW):aM prog C (bC 176) (bE 176) 176 [a0,a1,a2] S K=aQ3 C a0 a1 a2 S K:=congrFun (congrFun (congrFun (congrFun (congrFun (congrFun aUc C) a0) a1) a2) S) K
theorem bMd {a0 a1 a2:V} {S:St} {K:KW} (h:aQ3 C a0 a1 a2 S K):C 176 [a0,a1,a2] S K:=lA (p:=bC 176) (lv:=bE 176) (by kernel_rfl) (by rw [bMc];exact h)
theorem bMe (C:aD) (a0 a1:V) (S:St) (K:KW):aM prog C (bC 177) (bE 177) 177 [a0,a1] S K=aUd C a0 a1 S K:=congrFun (congrFun (congrFun (congrFun (congrFun aUe C) a0) a1) S) K
theorem bMf {a0 a1:V} {v:V} (hc:cloVs [a0,a1]=true) (h:aUd C a0 a1 ⟨0,.nil⟩ fun v0 S0=>cC S0 v0=.ok v):Fv 177 [a0,a1] v:=Go.AM.Fn.of (p:=bC 177) (lv:=bE 177) (by kernel_rfl) hc (by rw [bMe];exact h)
theorem bMg (C:aD) (a0 a1:V) (S:St) (K:KW):aM prog C (bC 178) (bE 178) 178 [a0,a1] S K=aUf C a0 a1 S K:=congrFun (congrFun (congrFun (congrFun (congrFun aUg C) a0) a1) S) K
theorem bMh {a0 a1:V} {v:V} (hc:cloVs [a0,a1]=true) (h:aUf C a0 a1 ⟨0,.nil⟩ fun v0 S0=>cC S0 v0=.ok v):Fv 178 [a0,a1] v:=Go.AM.Fn.of (p:=bC 178) (lv:=bE 178) (by kernel_rfl) hc (by rw [bMg];exact h)
theorem bMi (C:aD) (a0 a1 a2:V) (S:St) (K:KW):aM prog C (bC 179) (bE 179) 179 [a0,a1,a2] S K=aQ4 C a0 a1 a2 S K:=congrFun (congrFun (congrFun (congrFun (congrFun (congrFun aUh C) a0) a1) a2) S) K
theorem bMj {a0 a1 a2:V} {S:St} {K:KW} (h:aQ4 C a0 a1 a2 S K):C 179 [a0,a1,a2] S K:=lA (p:=bC 179) (lv:=bE 179) (by kernel_rfl) (by rw [bMi];exact h)
theorem bMk (C:aD) (a0 a1:V) (S:St) (K:KW):aM prog C (bC 180) (bE 180) 180 [a0,a1] S K=aUi C a0 a1 S K:=congrFun (congrFun (congrFun (congrFun (congrFun aUj C) a0) a1) S) K
theorem bMl {a0 a1:V} {S:St} {K:KW} (h:aUi C a0 a1 S K):C 180 [a0,a1] S K:=lA (p:=bC 180) (lv:=bE 180) (by kernel_rfl) (by rw [bMk];exact h)
theorem bMm (C:aD) (a0 a1:V) (S:St) (K:KW):aM prog C (bC 181) (bE 181) 181 [a0,a1] S K=aUk C a0 a1 S K:=congrFun (congrFun (congrFun (congrFun (congrFun aUl C) a0) a1) S) K
theorem bMn {a0 a1:V} {S:St} {K:KW} (h:aUk C a0 a1 S K):C 181 [a0,a1] S K:=lA (p:=bC 181) (lv:=bE 181) (by kernel_rfl) (by rw [bMm];exact h)
theorem bMo (C:aD) (a0 a1:V) (S:St) (K:KW):aM prog C (bC 182) (bE 182) 182 [a0,a1] S K=aUm C a0 a1 S K:=congrFun (congrFun (congrFun (congrFun (congrFun aUn C) a0) a1) S) K
theorem bMp {a0 a1:V} {v:V} (hc:cloVs [a0,a1]=true) (h:aUm C a0 a1 ⟨0,.nil⟩ fun v0 S0=>cC S0 v0=.ok v):Fv 182 [a0,a1] v:=Go.AM.Fn.of (p:=bC 182) (lv:=bE 182) (by kernel_rfl) hc (by rw [bMo];exact h)
theorem bMq (C:aD) (a0 a1 a2:V) (S:St) (K:KW):aM prog C (bC 183) (bE 183) 183 [a0,a1,a2] S K=aQ5 C a0 a1 a2 S K:=congrFun (congrFun (congrFun (congrFun (congrFun (congrFun aUo C) a0) a1) a2) S) K
theorem bMr {a0 a1 a2:V} {S:St} {K:KW} (h:aQ5 C a0 a1 a2 S K):C 183 [a0,a1,a2] S K:=lA (p:=bC 183) (lv:=bE 183) (by kernel_rfl) (by rw [bMq];exact h)
theorem bMs (C:aD) (a0 a1:V) (S:St) (K:KW):aM prog C (bC 184) (bE 184) 184 [a0,a1] S K=aUp C a0 a1 S K:=congrFun (congrFun (congrFun (congrFun (congrFun aUq C) a0) a1) S) K
theorem bMt {a0 a1:V} {S:St} {K:KW} (h:aUp C a0 a1 S K):C 184 [a0,a1] S K:=lA (p:=bC 184) (lv:=bE 184) (by kernel_rfl) (by rw [bMs];exact h)
theorem bMu (C:aD) (a0:V) (S:St) (K:KW):aM prog C (bC 200) (bE 200) 200 [a0] S K=aUr C a0 S K:=congrFun (congrFun (congrFun (congrFun aUs C) a0) S) K
theorem bMv {a0:V} {v:V} (hc:cloVs [a0]=true) (h:aUr C a0 ⟨0,.nil⟩ fun v0 S0=>cC S0 v0=.ok v):Fv 200 [a0] v:=Go.AM.Fn.of (p:=bC 200) (lv:=bE 200) (by kernel_rfl) hc (by rw [bMu];exact h)
theorem bMw (C:aD) (a0 a1:V) (S:St) (K:KW):aM prog C (bC 201) (bE 201) 201 [a0,a1] S K=aUt C a0 a1 S K:=congrFun (congrFun (congrFun (congrFun (congrFun aUu C) a0) a1) S) K
theorem bMx {a0 a1:V} {v:V} (hc:cloVs [a0,a1]=true) (h:aUt C a0 a1 ⟨0,.nil⟩ fun v0 S0=>cC S0 v0=.ok v):Fv 201 [a0,a1] v:=Go.AM.Fn.of (p:=bC 201) (lv:=bE 201) (by kernel_rfl) hc (by rw [bMw];exact h)
theorem bMy (C:aD) (a0 a1:V) (S:St) (K:KW):aM prog C (bC 203) (bE 203) 203 [a0,a1] S K=aUv C a0 a1 S K:=congrFun (congrFun (congrFun (congrFun (congrFun aUw C) a0) a1) S) K
theorem bMz {a0 a1:V} {v:V} (hc:cloVs [a0,a1]=true) (h:aUv C a0 a1 ⟨0,.nil⟩ fun v0 S0=>cC S0 v0=.ok v):Fv 203 [a0,a1] v:=Go.AM.Fn.of (p:=bC 203) (lv:=bE 203) (by kernel_rfl) hc (by rw [bMy];exact h)
theorem bN0 (C:aD) (a0:V) (S:St) (K:KW):aM prog C (bC 204) (bE 204) 204 [a0] S K=aUx C a0 S K:=congrFun (congrFun (congrFun (congrFun aUy C) a0) S) K
theorem bN1 {a0:V} {v:V} (hc:cloVs [a0]=true) (h:aUx C a0 ⟨0,.nil⟩ fun v0 S0=>cC S0 v0=.ok v):Fv 204 [a0] v:=Go.AM.Fn.of (p:=bC 204) (lv:=bE 204) (by kernel_rfl) hc (by rw [bN0];exact h)
theorem bN2 (C:aD) (a0 a1:V) (S:St) (K:KW):aM prog C (bC 217) (bE 217) 217 [a0,a1] S K=aUz C a0 a1 S K:=congrFun (congrFun (congrFun (congrFun (congrFun aV0 C) a0) a1) S) K
theorem bN3 {a0 a1:V} {v:V} (hc:cloVs [a0,a1]=true) (h:aUz C a0 a1 ⟨0,.nil⟩ fun v0 S0=>cC S0 v0=.ok v):Fv 217 [a0,a1] v:=Go.AM.Fn.of (p:=bC 217) (lv:=bE 217) (by kernel_rfl) hc (by rw [bN2];exact h)
theorem bN4 (C:aD) (a0:V) (S:St) (K:KW):aM prog C (bC 218) (bE 218) 218 [a0] S K=aV1 C a0 S K:=congrFun (congrFun (congrFun (congrFun aV2 C) a0) S) K
theorem bN5 {a0:V} {v:V} (hc:cloVs [a0]=true) (h:aV1 C a0 ⟨0,.nil⟩ fun v0 S0=>cC S0 v0=.ok v):Fv 218 [a0] v:=Go.AM.Fn.of (p:=bC 218) (lv:=bE 218) (by kernel_rfl) hc (by rw [bN4];exact h)
theorem bF0:uU 218=some (.val (bC 218)):=by kernel_rfl
theorem bN6 (C:aD) (a0 a1:V) (S:St) (K:KW):aM prog C (bC 219) (bE 219) 219 [a0,a1] S K=aV3 C a0 a1 S K:=congrFun (congrFun (congrFun (congrFun (congrFun aV4 C) a0) a1) S) K
theorem bN7 {a0 a1:V} {v:V} (hc:cloVs [a0,a1]=true) (h:aV3 C a0 a1 ⟨0,.nil⟩ fun v0 S0=>cC S0 v0=.ok v):Fv 219 [a0,a1] v:=Go.AM.Fn.of (p:=bC 219) (lv:=bE 219) (by kernel_rfl) hc (by rw [bN6];exact h)
theorem bN8 (C:aD) (a0:V) (S:St) (K:KW):aM prog C (bC 220) (bE 220) 220 [a0] S K=aV5 C a0 S K:=congrFun (congrFun (congrFun (congrFun aV6 C) a0) S) K
theorem bN9 {a0:V} {v:V} (hc:cloVs [a0]=true) (h:aV5 C a0 ⟨0,.nil⟩ fun v0 S0=>cC S0 v0=.ok v):Fv 220 [a0] v:=Go.AM.Fn.of (p:=bC 220) (lv:=bE 220) (by kernel_rfl) hc (by rw [bN8];exact h)
theorem bNa (C:aD) (a0:V) (S:St) (K:KW):aM prog C (bC 225) (bE 225) 225 [a0] S K=aV7 C a0 S K:=congrFun (congrFun (congrFun (congrFun aV8 C) a0) S) K
theorem bNb {a0:V} {v:V} (hc:cloVs [a0]=true) (h:aV7 C a0 ⟨0,.nil⟩ fun v0 S0=>cC S0 v0=.ok v):Fv 225 [a0] v:=Go.AM.Fn.of (p:=bC 225) (lv:=bE 225) (by kernel_rfl) hc (by rw [bNa];exact h)
theorem bNc (C:aD) (a0:V) (S:St) (K:KW):aM prog C (bC 226) (bE 226) 226 [a0] S K=aV9 C a0 S K:=congrFun (congrFun (congrFun (congrFun aVa C) a0) S) K
theorem bNd {a0:V} {v:V} (hc:cloVs [a0]=true) (h:aV9 C a0 ⟨0,.nil⟩ fun v0 S0=>cC S0 v0=.ok v):Fv 226 [a0] v:=Go.AM.Fn.of (p:=bC 226) (lv:=bE 226) (by kernel_rfl) hc (by rw [bNc];exact h)
theorem bNe (C:aD) (a0 a1:V) (S:St) (K:KW):aM prog C (bC 227) (bE 227) 227 [a0,a1] S K=aZq C a0 a1 S K:=congrFun (congrFun (congrFun (congrFun (congrFun aVb C) a0) a1) S) K
theorem bF1:uU 227=some (.val (bC 227)):=by kernel_rfl
theorem bNf (C:aD) (a0:V) (S:St) (K:KW):aM prog C (bC 228) (bE 228) 228 [a0] S K=aVc C a0 S K:=congrFun (congrFun (congrFun (congrFun aVd C) a0) S) K
theorem bNg {a0:V} {v:V} (hc:cloVs [a0]=true) (h:aVc C a0 ⟨0,.nil⟩ fun v0 S0=>cC S0 v0=.ok v):Fv 228 [a0] v:=Go.AM.Fn.of (p:=bC 228) (lv:=bE 228) (by kernel_rfl) hc (by rw [bNf];exact h)
theorem bNh (C:aD) (a0 a1:V) (S:St) (K:KW):aM prog C (bC 229) (bE 229) 229 [a0,a1] S K=aVe C a0 a1 S K:=congrFun (congrFun (congrFun (congrFun (congrFun aVf C) a0) a1) S) K
theorem bNi {a0 a1:V} {v:V} (hc:cloVs [a0,a1]=true) (h:aVe C a0 a1 ⟨0,.nil⟩ fun v0 S0=>cC S0 v0=.ok v):Fv 229 [a0,a1] v:=Go.AM.Fn.of (p:=bC 229) (lv:=bE 229) (by kernel_rfl) hc (by rw [bNh];exact h)
theorem bNj (C:aD) (a0 a1:V) (S:St) (K:KW):aM prog C (bC 231) (bE 231) 231 [a0,a1] S K=aZr C a0 a1 S K:=congrFun (congrFun (congrFun (congrFun (congrFun aVg C) a0) a1) S) K
theorem bF2:uU 231=some (.val (bC 231)):=by kernel_rfl
theorem bNk (C:aD) (a0 a1:V) (S:St) (K:KW):aM prog C (bC 232) (bE 232) 232 [a0,a1] S K=aZs C a0 a1 S K:=congrFun (congrFun (congrFun (congrFun (congrFun aVh C) a0) a1) S) K
theorem bF3:uU 232=some (.val (bC 232)):=by kernel_rfl
theorem bNl (C:aD) (a0 a1:V) (S:St) (K:KW):aM prog C (bC 233) (bE 233) 233 [a0,a1] S K=aVi C a0 a1 S K:=congrFun (congrFun (congrFun (congrFun (congrFun aVj C) a0) a1) S) K
theorem bNm {a0 a1:V} {v:V} (hc:cloVs [a0,a1]=true) (h:aVi C a0 a1 ⟨0,.nil⟩ fun v0 S0=>cC S0 v0=.ok v):Fv 233 [a0,a1] v:=Go.AM.Fn.of (p:=bC 233) (lv:=bE 233) (by kernel_rfl) hc (by rw [bNl];exact h)
theorem bNn (C:aD) (a0:V) (S:St) (K:KW):aM prog C (bC 235) (bE 235) 235 [a0] S K=aVk C a0 S K:=congrFun (congrFun (congrFun (congrFun aVl C) a0) S) K
theorem bNo {a0:V} {S:St} {K:KW} (hc:cloVs [a0]=true) (h:aVk C a0 ⟨0,.nil⟩ fun v0 S0=>wR (pK [0] v0 S0 S) fun r=>K r.1 r.2):C 235 [a0] S K:=aYe (p:=bC 235) (lv:=bE 235) (by kernel_rfl) hc (by rw [bNn];exact h)
theorem bNp (C:aD) (a0 a1:V) (S:St) (K:KW):aM prog C (bC 236) (bE 236) 236 [a0,a1] S K=aVm C a0 a1 S K:=congrFun (congrFun (congrFun (congrFun (congrFun aVn C) a0) a1) S) K
theorem bNq {a0 a1:V} {v:V} (hc:cloVs [a0,a1]=true) (h:aVm C a0 a1 ⟨0,.nil⟩ fun v0 S0=>cC S0 v0=.ok v):Fv 236 [a0,a1] v:=Go.AM.Fn.of (p:=bC 236) (lv:=bE 236) (by kernel_rfl) hc (by rw [bNp];exact h)
theorem bNr (C:aD) (a0 a1 a2:V) (S:St) (K:KW):aM prog C (bC 238) (bE 238) 238 [a0,a1,a2] S K=aVo C a0 a1 a2 S K:=congrFun (congrFun (congrFun (congrFun (congrFun (congrFun aVp C) a0) a1) a2) S) K
theorem bNs {a0 a1 a2:V} {v:V} (hc:cloVs [a0,a1,a2]=true) (h:aVo C a0 a1 a2 ⟨0,.nil⟩ fun v0 S0=>cC S0 v0=.ok v):Fv 238 [a0,a1,a2] v:=Go.AM.Fn.of (p:=bC 238) (lv:=bE 238) (by kernel_rfl) hc (by rw [bNr];exact h)
theorem bNt (C:aD) (a0 a1 a2:V) (S:St) (K:KW):aM prog C (bC 239) (bE 239) 239 [a0,a1,a2] S K=aVq C a0 a1 a2 S K:=congrFun (congrFun (congrFun (congrFun (congrFun (congrFun aVr C) a0) a1) a2) S) K
theorem bNu {a0 a1 a2:V} {S:St} {K:KW} (h:aVq C a0 a1 a2 S K):C 239 [a0,a1,a2] S K:=lA (p:=bC 239) (lv:=bE 239) (by kernel_rfl) (by rw [bNt];exact h)
theorem bNv (C:aD) (a0 a1:V) (S:St) (K:KW):aM prog C (bC 241) (bE 241) 241 [a0,a1] S K=aVs C a0 a1 S K:=congrFun (congrFun (congrFun (congrFun (congrFun aVt C) a0) a1) S) K
theorem bNw {a0 a1:V} {v:V} (hc:cloVs [a0,a1]=true) (h:aVs C a0 a1 ⟨0,.nil⟩ fun v0 S0=>cC S0 v0=.ok v):Fv 241 [a0,a1] v:=Go.AM.Fn.of (p:=bC 241) (lv:=bE 241) (by kernel_rfl) hc (by rw [bNv];exact h)
theorem bNx (C:aD) (a0 a1 a2:V) (S:St) (K:KW):aM prog C (bC 254) (bE 254) 254 [a0,a1,a2] S K=aVu C a0 a1 a2 S K:=congrFun (congrFun (congrFun (congrFun (congrFun (congrFun aVv C) a0) a1) a2) S) K
theorem bNy {a0 a1 a2:V} {v:V} (hc:cloVs [a0,a1,a2]=true) (h:aVu C a0 a1 a2 ⟨0,.nil⟩ fun v0 S0=>cC S0 v0=.ok v):Fv 254 [a0,a1,a2] v:=Go.AM.Fn.of (p:=bC 254) (lv:=bE 254) (by kernel_rfl) hc (by rw [bNx];exact h)
theorem bNz (C:aD) (a0:V) (S:St) (K:KW):aM prog C (bC 259) (bE 259) 259 [a0] S K=aQ6 C a0 S K:=congrFun (congrFun (congrFun (congrFun aVw C) a0) S) K
theorem bF4 {a0:V} {S:St} {K:KW} (h:aQ6 C a0 S K):C 259 [a0] S K:=lA (p:=bC 259) (lv:=bE 259) (by kernel_rfl) (by rw [bNz];exact h)
theorem bO0 (C:aD) (a0 a1:V) (S:St) (K:KW):aM prog C (bC 260) (bE 260) 260 [a0,a1] S K=aVx C a0 a1 S K:=congrFun (congrFun (congrFun (congrFun (congrFun aVy C) a0) a1) S) K
theorem bO1 {a0 a1:V} {v:V} (hc:cloVs [a0,a1]=true) (h:aVx C a0 a1 ⟨0,.nil⟩ fun v0 S0=>cC S0 v0=.ok v):Fv 260 [a0,a1] v:=Go.AM.Fn.of (p:=bC 260) (lv:=bE 260) (by kernel_rfl) hc (by rw [bO0];exact h)
theorem bO2 (C:aD) (a0 a1:V) (S:St) (K:KW):aM prog C (bC 263) (bE 263) 263 [a0,a1] S K=aZt C a0 a1 S K:=congrFun (congrFun (congrFun (congrFun (congrFun aVz C) a0) a1) S) K
theorem bF5:uU 263=some (.val (bC 263)):=by kernel_rfl
theorem bO3 (C:aD) (a0 a1 a2:V) (S:St) (K:KW):aM prog C (bC 268) (bE 268) 268 [a0,a1,a2] S K=aW0 C a0 a1 a2 S K:=congrFun (congrFun (congrFun (congrFun (congrFun (congrFun aW1 C) a0) a1) a2) S) K
theorem bO4 {a0 a1 a2:V} {v:V} (hc:cloVs [a0,a1,a2]=true) (h:aW0 C a0 a1 a2 ⟨0,.nil⟩ fun v0 S0=>cC S0 v0=.ok v):Fv 268 [a0,a1,a2] v:=Go.AM.Fn.of (p:=bC 268) (lv:=bE 268) (by kernel_rfl) hc (by rw [bO3];exact h)
theorem bO5 (C:aD) (a0 a1 a2 a3:V) (S:St) (K:KW):aM prog C (bC 269) (bE 269) 269 [a0,a1,a2,a3] S K=aW2 C a0 a1 a2 a3 S K:=congrFun (congrFun (congrFun (congrFun (congrFun (congrFun (congrFun aW3 C) a0) a1) a2) a3) S) K
theorem bO6 {a0 a1 a2 a3:V} {S:St} {K:KW} (h:aW2 C a0 a1 a2 a3 S K):C 269 [a0,a1,a2,a3] S K:=lA (p:=bC 269) (lv:=bE 269) (by kernel_rfl) (by rw [bO5];exact h)
theorem bO7 (C:aD) (a0:V) (S:St) (K:KW):aM prog C (bC 270) (bE 270) 270 [a0] S K=aW4 C a0 S K:=congrFun (congrFun (congrFun (congrFun aW5 C) a0) S) K
theorem bO8 {a0:V} {S:St} {K:KW} (h:aW4 C a0 S K):C 270 [a0] S K:=lA (p:=bC 270) (lv:=bE 270) (by kernel_rfl) (by rw [bO7];exact h)
theorem bO9 (C:aD) (a0 a1:V) (S:St) (K:KW):aM prog C (bC 271) (bE 271) 271 [a0,a1] S K=aW6 C a0 a1 S K:=congrFun (congrFun (congrFun (congrFun (congrFun aW7 C) a0) a1) S) K
theorem bOa {a0 a1:V} {v:V} (hc:cloVs [a0,a1]=true) (h:aW6 C a0 a1 ⟨0,.nil⟩ fun v0 S0=>cC S0 v0=.ok v):Fv 271 [a0,a1] v:=Go.AM.Fn.of (p:=bC 271) (lv:=bE 271) (by kernel_rfl) hc (by rw [bO9];exact h)
theorem bOb (C:aD) (a0 a1 a2:V) (S:St) (K:KW):aM prog C (bC 278) (bE 278) 278 [a0,a1,a2] S K=aW8 C a0 a1 a2 S K:=congrFun (congrFun (congrFun (congrFun (congrFun (congrFun aW9 C) a0) a1) a2) S) K
theorem bOc {a0 a1 a2:V} {v:V} (hc:cloVs [a0,a1,a2]=true) (h:aW8 C a0 a1 a2 ⟨0,.nil⟩ fun v0 S0=>cC S0 v0=.ok v):Fv 278 [a0,a1,a2] v:=Go.AM.Fn.of (p:=bC 278) (lv:=bE 278) (by kernel_rfl) hc (by rw [bOb];exact h)
theorem bOd (C:aD) (a0 a1:V) (S:St) (K:KW):aM prog C (bC 279) (bE 279) 279 [a0,a1] S K=aWa C a0 a1 S K:=congrFun (congrFun (congrFun (congrFun (congrFun aWb C) a0) a1) S) K
theorem bOe {a0 a1:V} {v:V} (hc:cloVs [a0,a1]=true) (h:aWa C a0 a1 ⟨0,.nil⟩ fun v0 S0=>cC S0 v0=.ok v):Fv 279 [a0,a1] v:=Go.AM.Fn.of (p:=bC 279) (lv:=bE 279) (by kernel_rfl) hc (by rw [bOd];exact h)
theorem bOf (C:aD) (a0:V) (S:St) (K:KW):aM prog C (bC 286) (bE 286) 286 [a0] S K=aWc C a0 S K:=congrFun (congrFun (congrFun (congrFun aWd C) a0) S) K
theorem bOg {a0:V} {v:V} (hc:cloVs [a0]=true) (h:aWc C a0 ⟨0,.nil⟩ fun v0 S0=>cC S0 v0=.ok v):Fv 286 [a0] v:=Go.AM.Fn.of (p:=bC 286) (lv:=bE 286) (by kernel_rfl) hc (by rw [bOf];exact h)
theorem bOh (C:aD) (a0 a1:V) (S:St) (K:KW):aM prog C (bC 287) (bE 287) 287 [a0,a1] S K=aWe C a0 a1 S K:=congrFun (congrFun (congrFun (congrFun (congrFun aWf C) a0) a1) S) K
theorem bOi {a0 a1:V} {v:V} (hc:cloVs [a0,a1]=true) (h:aWe C a0 a1 ⟨0,.nil⟩ fun v0 S0=>cC S0 v0=.ok v):Fv 287 [a0,a1] v:=Go.AM.Fn.of (p:=bC 287) (lv:=bE 287) (by kernel_rfl) hc (by rw [bOh];exact h)
end Go.Proofs.YtoaibmbldmckaaaGreat
end
section
namespace Go.AM
open Go.RowKit Go.Lib Go.Proofs Go.Shelf
theorem aBn {P:Program} {t:TypeId} (h:(P.info? t).isSome=true) (w:World):(Go.sizeOf t).run P w=.ok (sz P t) w:=by
 obtain ⟨i,hi⟩:=Option.isSome_iff_exists.1 h
 simp [sizeOf,typeInfo,hi,iN hi]
theorem jW {P:Program} {t:TypeId} (h:(P.info? t).map (·.size)=some 1) (w:World):(Go.sizeOf t).run P w=.ok 1 w:=by
 cases hi:P.info? t with
 | none=>rw [hi] at h;cases h
 | some i=>rw [hi] at h;simp [sizeOf,typeInfo,hi] at h ⊢;exact h
theorem oH {P:Program} {f:FuncId} {T e I B:TypeId} {ov rr:FuncId} {fn fo:Func} (mixed:P.follows .mixedOrders=true) (hf:P.funcs[f]?=some fn) (hb:fn.body=some (vJ T I B ov rr)) (hn:fn.ntmps=95) (hr:fn.results=#[.tmp 6])
  (tT:P.underlying T=some (.slice e)) (tI:P.underlying I=some (.int .i64)) (tB:P.underlying B=some .bool)
  (ho:P.funcs[ov]?=some fo) (o1:(fo.name == "runtime.NumGoroutine")=false) (o2:fo.body.isNone=true) (o3:Extern.findNext fo=none) (o4:Extern.find fo=some (Extern.SlicesOverlaps.overlaps #[T,T] #[B]))
  (zE:(P.info? e).isSome=true) (zT:(P.info? T).map (·.size)=some 1) (zI:(P.info? I).map (·.size)=some 1) (zB:(P.info? B).map (·.size)=some 1):InsAt P f T e I B ov rr fn:=
 ⟨mixed,hf,hb,hn,hr,tT,tI,tB,run_callFunc_extern ho o1 o2 o3 o4,aBn zE,jW zT,jW zI,jW zB⟩
theorem aQ7 {P:Program} {f:FuncId} {T e I B:TypeId} {fn:Func} (mixed:P.follows .mixedOrders=true) (hf:P.funcs[f]?=some fn) (hb:fn.body=some (aA0 T I B)) (hn:fn.ntmps=33) (hr:fn.results=#[.tmp 6])
  (tT:P.underlying T=some (.slice e)) (tI:P.underlying I=some (.int .i64)) (tB:P.underlying B=some .bool)
  (zE:(P.info? e).isSome=true) (zT:(P.info? T).map (·.size)=some 1) (zI:(P.info? I).map (·.size)=some 1) (zB:(P.info? B).map (·.size)=some 1):DelAt P f T e I B fn:=
 ⟨mixed,hf,hb,hn,hr,tT,tI,tB,aBn zE,jW zT,jW zI,jW zB⟩
end Go.AM
end
section
namespace Go.Proofs.YtoaibmbldmckaaaGreat
open Go.RowKit Go.AM Tryz
theorem bF6:SpecOK prog 202 ((Sp.ins 68).run prog):=
 iQ (e:=76) (I:=3) (B:=4) (ov:=247) (rr:=248) (fn:=Tryz.f202) (oH (fo:=Tryz.f247) (by kernel_rfl) (by kernel_rfl) (by kernel_rfl) (by kernel_rfl) (by kernel_rfl)
  (by kernel_rfl) (by kernel_rfl) (by kernel_rfl) (by kernel_rfl) (by kernel_rfl) (by kernel_rfl) (by kernel_rfl) (by kernel_rfl) (by kernel_rfl) (by kernel_rfl) (by kernel_rfl) (by kernel_rfl)) (by kernel_rfl)
theorem bF7:SpecOK prog 221 ((Sp.ins 27).run prog):=
 iQ (e:=90) (I:=3) (B:=4) (ov:=256) (rr:=257) (fn:=Tryz.f221) (oH (fo:=Tryz.f256) (by kernel_rfl) (by kernel_rfl) (by kernel_rfl) (by kernel_rfl) (by kernel_rfl)
  (by kernel_rfl) (by kernel_rfl) (by kernel_rfl) (by kernel_rfl) (by kernel_rfl) (by kernel_rfl) (by kernel_rfl) (by kernel_rfl) (by kernel_rfl) (by kernel_rfl) (by kernel_rfl) (by kernel_rfl)) (by kernel_rfl)
theorem bF8:SpecOK prog 230 ((Sp.ins 28).run prog):=
 iQ (e:=132) (I:=3) (B:=4) (ov:=261) (rr:=262) (fn:=Tryz.f230) (oH (fo:=Tryz.f261) (by kernel_rfl) (by kernel_rfl) (by kernel_rfl) (by kernel_rfl) (by kernel_rfl)
  (by kernel_rfl) (by kernel_rfl) (by kernel_rfl) (by kernel_rfl) (by kernel_rfl) (by kernel_rfl) (by kernel_rfl) (by kernel_rfl) (by kernel_rfl) (by kernel_rfl) (by kernel_rfl) (by kernel_rfl)) (by kernel_rfl)
theorem bF9:SpecOK prog 234 ((Sp.ins 25).run prog):=
 iQ (e:=126) (I:=3) (B:=4) (ov:=264) (rr:=265) (fn:=Tryz.f234) (oH (fo:=Tryz.f264) (by kernel_rfl) (by kernel_rfl) (by kernel_rfl) (by kernel_rfl) (by kernel_rfl)
  (by kernel_rfl) (by kernel_rfl) (by kernel_rfl) (by kernel_rfl) (by kernel_rfl) (by kernel_rfl) (by kernel_rfl) (by kernel_rfl) (by kernel_rfl) (by kernel_rfl) (by kernel_rfl) (by kernel_rfl)) (by kernel_rfl)
theorem bFa:SpecOK prog 237 ((Sp.ins 24).run prog):=
 iQ (e:=54) (I:=3) (B:=4) (ov:=266) (rr:=267) (fn:=Tryz.f237) (oH (fo:=Tryz.f266) (by kernel_rfl) (by kernel_rfl) (by kernel_rfl) (by kernel_rfl) (by kernel_rfl)
  (by kernel_rfl) (by kernel_rfl) (by kernel_rfl) (by kernel_rfl) (by kernel_rfl) (by kernel_rfl) (by kernel_rfl) (by kernel_rfl) (by kernel_rfl) (by kernel_rfl) (by kernel_rfl) (by kernel_rfl)) (by kernel_rfl)
theorem bFb:SpecOK prog 280 ((Sp.ins 80).run prog):=
 iQ (e:=145) (I:=3) (B:=4) (ov:=288) (rr:=289) (fn:=Tryz.f280) (oH (fo:=Tryz.f288) (by kernel_rfl) (by kernel_rfl) (by kernel_rfl) (by kernel_rfl) (by kernel_rfl)
  (by kernel_rfl) (by kernel_rfl) (by kernel_rfl) (by kernel_rfl) (by kernel_rfl) (by kernel_rfl) (by kernel_rfl) (by kernel_rfl) (by kernel_rfl) (by kernel_rfl) (by kernel_rfl) (by kernel_rfl)) (by kernel_rfl)
theorem bFc:SpecOK prog 240 ((Sp.del 28).run prog):=
 aHk (e:=132) (I:=3) (B:=4) (fn:=Tryz.f240) (aQ7 (by kernel_rfl) (by kernel_rfl) (by kernel_rfl) (by kernel_rfl) (by kernel_rfl)
  (by kernel_rfl) (by kernel_rfl) (by kernel_rfl) (by kernel_rfl) (by kernel_rfl) (by kernel_rfl) (by kernel_rfl)) (by kernel_rfl)
theorem hU {P:Program} {a b:hM} (h:gK P a=true) (k:gK P b=true):gK P (a++b)=true:=by unfold gK at *;rw [List.all_append,h,k];rfl
theorem bBk:SpAll prog dSp:=⟨bF6,bF7,bF8,bF9,bFa,bFb,bFc,trivial⟩
theorem aQ8:aSs=aPr++(aPs++(aPt++(aPu++(aPv++(aPw++(aPx++(aPy++(aPz++(aQ0++(aLs++(aLt++(aLu++(aLv++(aLw++(aLx++(aLy)))))))))))))))):=rfl
theorem aXj:gK prog aSs=true:=by
 rw [aQ8]
 exact hU aNh (hU aNi (hU aNj (hU aNk (hU aNl (hU aNm (hU aNn (hU aNo (hU aNp (hU aNq (hU aJr (hU aJs (hU aJt (hU aJu (hU aJv (hU aJw (aJx))))))))))))))))
theorem aNt:PlansOK prog uU:=aJc (by kernel_rfl) bBk aXj
end Go.Proofs.YtoaibmbldmckaaaGreat
end
section
namespace Go.Proofs.YtoaibmbldmckaaaGreat
open Go.AM Tryz
def aKc (y:Int):Bool:=if y.tmod 4=0 then (if y.tmod 100=0 then decide (y.tmod 400=0) else true) else false
def fT (y m:Int):Int:=if m=2 then (if aKc y=true then 29 else 28) else if m=4∨m=6∨m=9∨m=11 then 30 else 31
structure Date where
 y:Int
 m:Int
 d:Int
deriving DecidableEq
def Date.enc (d:Date):List V:=[.int .i64 d.y,.int .i64 d.m,.int .i64 d.d]
def Date.right (d:Date):Bool:=decide (1≤d.y)&&(decide (d.y≤9999)&&(decide (1≤d.m)&&(decide (d.m≤12)&&(decide (1≤d.d)&&decide (d.d≤fT d.y d.m)))))
def ahead (y:Int):Int:=
 wr .i64 (wr .i64 (wr .i64 (wr .i64 (365*wr .i64 (y - 1))+wr .i64 ((wr .i64 (y - 1)).tdiv 4)) - wr .i64 ((wr .i64 (y - 1)).tdiv 100))+wr .i64 ((wr .i64 (y - 1)).tdiv 400))
def lU (y:Int) (n:Int) (i:Nat):Int⊕Int:=.inr (wr .i64 (n+fT y ((i:Int)+1)))
def Date.days (d:Date):Int:=if d.right=true then wr .i64 (wr .i64 (aO (lU d.y) id (List.range (d.m - 1).toNat) (ahead d.y)+d.d) - 1) else -1
def Date.before (a b:Date):Bool:=a.right&&(b.right&&decide (a.days<b.days))
def cM (a b:Int):Int×Int:=
 if (0<b∧wr .i64 (9223372036854775807 - b)<a)∨(b<0∧a<wr .i64 (-9223372036854775808 - b)) then (0,7) else (wr .i64 (a+b),0)
def jX (a b:Int):Int×Int:=
 if (b<0∧wr .i64 (9223372036854775807+b)<a)∨(0<b∧a<wr .i64 (-9223372036854775808+b)) then (0,7) else (wr .i64 (a - b),0)
def gD (r:Int×Int):V:=.tup [.int .i64 r.1,.int .i64 r.2]
def aNu (n:Int):Int:=wr .u64 ((BitVec.ofInt IntKind.u64.bits (if IntKind.u64.signed then -1 else IntKind.u64.max) ^^^ BitVec.ofInt IntKind.u64.bits n).toNat)
def oI (n:Int):Int:=if n<0 then wr .u64 (aNu (wr .u64 n)+1) else wr .u64 n
def aAf (n:Int) (neg:Bool):Int×Bool:=
 if neg=true then (wr .i64 (wr .u64 (aNu n+1)),decide (n≤9223372036854775808)) else (wr .i64 n,decide (n≤9223372036854775807))
def aKd (a b:Int):Int×Int:=
 if 0<oI b∧wr .u64 ((9223372036854775808:Int).tdiv (oI b))<oI a then (0,7) else
  let r:=aAf (wr .u64 (oI a*oI b)) (!(decide (a<0) == decide (b<0)))
  if r.2=true then (r.1,0) else (0,7)
def cH (n bp:Int):Int×Int:=
 if bp<0∨100000<bp then (0,1) else
  let u:=oI n
  let p:=wr .u64 bp
  let many:=wr .u64 (u.tdiv 10000)
  let rest:=u.tmod 10000
  if 0<p∧wr .u64 ((9223372036854775807:Int).tdiv p)<many then (0,7) else
   let out:=wr .u64 (wr .u64 (many*p)+wr .u64 ((wr .u64 (wr .u64 (wr .u64 (2*rest)*p)+10000)).tdiv (wr .u64 (2*10000))))
   if 9223372036854775807<out then (0,7) else if n<0 then (wr .i64 (0 - wr .i64 out),0) else (wr .i64 out,0)
theorem aBo:wr .u64 (2*10000)=20000:=by decide
theorem bBl:wr .u64 10000=10000:=by decide
def vX (r:Int):Bool:=
 if (97≤r∧r≤122)∨(65≤r∧r≤90) then true else if r=215 then false else if r=247 then false else decide (192≤r)&&decide (r≤591)
def nC (s:List UInt8):Nat→Nat→List (Nat×Nat)
 | 0,_=>[]
 | f+1,pos=>if pos<s.length then (pos,(Utf8.decode ⟨⟨s⟩⟩ pos).1)::nC s f (pos+(Utf8.decode ⟨⟨s⟩⟩ pos).2) else []
theorem aI0 (s:ByteArray) (i:Nat):1≤(Utf8.decode s i).2:=by
 unfold Utf8.decode
 simp only
 repeat' split
 all_goals simp
def vY (_:Unit) (x:Nat×Nat):Bool⊕Unit:=
 if vX x.2=true then .inr () else if x.1=0 then .inl false else if (48≤x.2∧x.2≤57)∨x.2=45∨x.2=95∨x.2=46 then .inr () else .inl false
def eN (s:List UInt8):Bool:=if s.length<1 then false else if 24<s.length then false else aO vY (fun _=>true) (nC s s.length 0) ()
structure Rate where
 cat:List UInt8
 day:Date
 bp:Int
deriving DecidableEq
def Rate.enc (r:Rate):List V:=[.str r.cat,.int .i64 r.day.y,.int .i64 r.day.m,.int .i64 r.day.d,.int .i64 r.bp]
def tZ (r:Rate):Int:=if eN r.cat=false then 8 else if r.day.right=false then 9 else if r.bp<0 then 10 else if 100000<r.bp then 10 else 0
def fO (a b:Rate):Bool:=if eZ a.cat b.cat=true then true else if (a.cat == b.cat)=true then a.day.before b.day else false
def iR (prev:Option Rate) (r:Rate):Bool⊕Option Rate:=
 if tZ r≠0 then .inl false else match prev with
  | none=>.inr (some r)
  | some p=>if fO p r=true then .inr (some r) else .inl false
def fY (l:List Rate):Bool:=if 24<l.length then false else aO iR (fun _=>true) l none
def fZ {α:Type} (l:List α) (i:Nat):Option α:=if i=0 then none else l[i - 1]?
structure Rep where
 why:Int
 number:Int
 gross:Int
deriving DecidableEq
structure Sess where
 id:Int
 last:Int
 reply:Rep
deriving DecidableEq
def Rep.enc (r:Rep):List V:=[.int .i64 r.why,.int .i64 r.number,.int .i64 r.gross]
def Sess.enc (s:Sess):List V:=[.int .i64 s.id,.int .i64 s.last,.int .i64 s.reply.why,.int .i64 s.reply.number,.int .i64 s.reply.gross]
def Rep.zero:Rep:=⟨0,0,0⟩
def jD (last:Int) (s:Sess):Bool⊕Int:=
 if s.id≤last then .inl false else if s.last<0 then .inl false else if 1099511627776<s.last then .inl false else if s.last=0∧s.reply≠Rep.zero then .inl false else .inr s.id
def gE (l:List Sess):Bool:=if 8<l.length then false else aO jD (fun _=>true) l 0
def eU {α:Type} (p:α→Bool) (n:Nat) (a:α):Int⊕Nat:=if p a=true then .inl (n:Int) else .inr (n+1)
def ixM {α:Type} (p:α→Bool) (l:List α):Int:=aO (eU p) (fun _=>-1) l 0
theorem aDq {α:Type} (p:α→Bool):∀ (l:List α) (n:Nat),(aO (eU p) (fun _=>-1) l n=-1)∨∃ (i:Nat) (a:α),aO (eU p) (fun _=>-1) l n=((n+i:Nat):Int)∧l[i]?=some a∧p a=true
 | [],n=>.inl rfl
 | a::l,n=>by
  by_cases h:p a=true
  ·refine .inr ⟨0,a,?_,rfl,h⟩
   simp [aO,eU,h]
  ·rcases aDq p l (n+1) with h1 | ⟨i,b,h1,h2,h3⟩
   ·left;simp [aO,eU,h,h1]
   ·right
    refine ⟨i+1,b,?_,by simpa using h2,h3⟩
    simp only [aO,eU,h,if_false]
    simp only [h1,Bool.false_eq_true,if_false]
    omega
theorem sD {α:Type} (p:α→Bool) (l:List α):(ixM p l=-1)∨∃ (i:Nat) (a:α),ixM p l=(i:Int)∧l[i]?=some a∧p a=true:=by
 rcases aDq p l 0 with h | ⟨i,a,h1,h2,h3⟩
 ·exact .inl h
 ·exact .inr ⟨i,a,by rw [ixM,h1];simp,h2,h3⟩
def gP (l:List Sess) (id:Int):Int:=ixM (fun s:Sess=>decide (s.id=id)) l
def cN (l:List Sess) (id seq:Int):Rep×Bool×Int:=
 if gE l=false then (Rep.zero,false,1) else if gP l id<0 then (Rep.zero,false,15) else if seq<1∨1099511627776<seq then (Rep.zero,false,1) else
  match l[(gP l id).toNat]? with
  | none=>(Rep.zero,false,1)
  | some s=>if seq=s.last then (s.reply,true,0) else if seq<s.last then (Rep.zero,false,16) else (Rep.zero,false,0)
theorem lV {l:List Sess} (h:gE l=true):l.length≤8:=by
 unfold gE at h
 split at h
 ·cases h
 ·omega
theorem jE (l:List Sess) (id:Int):gP l id=-1∨∃ (i:Nat) (s:Sess),gP l id=(i:Int)∧l[i]?=some s∧s.id=id:=by
 rcases sD (fun s:Sess=>decide (s.id=id)) l with h | ⟨i,s,h1,h2,h3⟩
 ·exact .inl h
 ·exact .inr ⟨i,s,h1,h2,of_decide_eq_true h3⟩
def eO {α:Type} (p:α→Bool) (n:Nat) (a:α):Nat⊕Nat:=if p a=true then .inr (n+1) else .inl n
def lB {α:Type} (p:α→Bool) (l:List α):Nat:=aO (eO p) id l 0
theorem aDr {α:Type} (p:α→Bool):∀ (l:List α) (n:Nat),aO (eO p) id l n≤n+l.length
 | [],n=>by simp [aO]
 | a::l,n=>by
  have ih:=aDr p l (n+1)
  by_cases h:p a=true
  ·simp only [aO,eO,h,if_true,List.length_cons];omega
  ·simp only [aO,eO,h,if_false,List.length_cons,Bool.false_eq_true];omega
theorem vZ {α:Type} (p:α→Bool) (l:List α):lB p l≤l.length:=by have:=aDr p l 0;simp only [lB];omega
def eH {α:Type} (l:List α) (i:Nat) (a:α):List α:=l.take i++a::l.drop i
theorem lW {α β:Type} (f:α→β) (l:List α) (i:Nat) (a:α):(eH l i a).map f=(l.map f).take i++f a::(l.map f).drop i:=by simp [eH,List.map_take,List.map_drop]
def nF (l:List Sess) (id:Int):List Sess×Int:=
 if gE l=false∨id<1 then ([],1) else if 0≤gP l id then ([],12) else if 8≤l.length then ([],14) else (eH l (lB (fun s=>decide (s.id<id)) l) ⟨id,0,Rep.zero⟩,0)
def uA {α:Type} (l:List α) (i:Nat):List α:=l.take i++l.drop (i+1)
theorem aKe {α β:Type} (f:α→β) (l:List α) (i:Nat):(uA l i).map f=(l.map f).take i++(l.map f).drop (i+1):=by simp [uA,List.map_take,List.map_drop]
def gA (l:List Sess) (id:Int):List Sess×Int:=
 if gE l=false then ([],1) else if gP l id<0 then ([],11) else (uA l (gP l id).toNat,0)
def jN (l:List Sess) (id seq:Int) (r:Rep):List Sess×Int:=
 if (cN l id seq).2.2≠0 then ([],(cN l id seq).2.2) else if (cN l id seq).2.1=true then ([],12) else
  match l[(gP l id).toNat]? with
  | none=>([],0)
  | some s=>(l.set (gP l id).toNat ⟨s.id,seq,r⟩,0)
theorem aBp {l:List Sess} {id seq:Int} (h:(cN l id seq).2.2=0):gE l=true∧∃ (i:Nat) (s:Sess),gP l id=(i:Int)∧l[i]?=some s:=by
 unfold cN at h
 split at h
 ·cases h
 ·rename_i hr
  have hr:gE l=true:=by simpa using hr
  split at h
  ·cases h
  ·rcases jE l id with h' | ⟨i,s,h1,h2,_⟩
   ·omega
   ·exact ⟨hr,i,s,h1,h2⟩
structure Ser where
 name:List UInt8
 next:Int
 limit:Int
 shut:Bool
deriving DecidableEq
def Ser.enc (s:Ser):List V:=[.str s.name,.int .i64 s.next,.int .i64 s.limit,.bool s.shut]
def iD (l:List Ser) (name:List UInt8):Int:=ixM (fun s:Ser=>s.name == name) l
theorem kT (l:List Ser) (name:List UInt8):iD l name=-1∨∃ (i:Nat) (s:Ser),iD l name=(i:Int)∧l[i]?=some s∧s.name=name:=by
 rcases sD (fun s:Ser=>s.name == name) l with h | ⟨i,s,h1,h2,h3⟩
 ·exact .inl h
 ·exact .inr ⟨i,s,h1,h2,by simpa using h3⟩
def qZ (s:Ser):Bool:=decide (s.limit<1)||(decide (1099511627776<s.limit)||(decide (s.next<1)||decide (wr .i64 (s.limit+1)<s.next)))
def oJ (prev:Option Ser) (s:Ser):Bool:=match prev with
 | none=>false
 | some p=>!eZ p.name s.name
def nG (prev:Option Ser) (s:Ser):Bool⊕Option Ser:=
 if eN s.name=false then .inl false else if oJ prev s=true then .inl false else if qZ s=true then .inl false else .inr (some s)
def mT (l:List Ser):Bool:=if 8<l.length then false else aO nG (fun _=>true) l none
theorem oK {l:List Ser} (h:mT l=true):l.length≤8:=by
 unfold mT at h
 split at h
 ·cases h
 ·omega
def iE (l:List Ser) (name:List UInt8):Int×Int:=
 if mT l=false then (0,1) else if iD l name<0 then (0,11) else match l[(iD l name).toNat]? with
  | none=>(0,1)
  | some s=>if s.shut=true then (0,13) else (iD l name,0)
theorem wC {l:List Ser} {name:List UInt8} (h:(iE l name).2=0):mT l=true∧∃ (i:Nat) (s:Ser),iE l name=((i:Int),0)∧iD l name=(i:Int)∧l[i]?=some s∧s.name=name∧s.shut=false:=by
 unfold iE at h
 split at h
 ·cases h
 ·rename_i hr
  have hr:mT l=true:=by simpa using hr
  split at h
  ·cases h
  ·rename_i h11
   rcases kT l name with h' | ⟨i,s,h1,h2,h3⟩
   ·omega
   ·rw [h1] at h
    simp only [Int.toNat_natCast,h2] at h
    split at h
    ·cases h
    ·rename_i hsh
     refine ⟨hr,i,s,?_,h1,h2,h3,by simpa using hsh⟩
     unfold iE
     rw [if_neg (by rw [hr];simp),if_neg h11,h1]
     simp only [Int.toNat_natCast,h2,if_neg hsh]
def oL (l:List Ser) (name:List UInt8):List Ser×Int:=
 if (iE l name).2≠0 then ([],(iE l name).2) else match l[(iE l name).1.toNat]? with
  | none=>([],0)
  | some s=>(l.set (iE l name).1.toNat { s with shut:=true },0)
def dE (l:List Ser) (name:List UInt8):List Ser×Int×Int:=
 if (iE l name).2≠0 then ([],0,(iE l name).2) else match l[(iE l name).1.toNat]? with
  | none=>([],0,0)
  | some s=>if s.limit<s.next then ([],0,14) else (l.set (iE l name).1.toNat { s with next:=wr .i64 (s.next+1) },s.next,0)
def fA (l:List Ser) (name:List UInt8) (limit:Int):List Ser×Int:=
 if mT l=false then ([],1) else if eN name=false then ([],8) else if limit<1∨1099511627776<limit then ([],1) else if 0≤iD l name then ([],12) else if 8≤l.length then ([],14) else
  (eH l (lB (fun s=>eZ s.name name) l) ⟨name,1,limit,false⟩,0)
def Ser.zero:Ser:=⟨[],0,0,false⟩
def kH (l:List Ser) (name:List UInt8):Ser×Bool:=match (if iD l name<0 then none else l[(iD l name).toNat]?) with
 | none=>(Ser.zero,false)
 | some s=>(s,true)
def jF (cat:List UInt8) (d:Date) (st:Int×Bool) (r:Rate):(Int×Bool)⊕(Int×Bool):=.inr (if (r.cat == cat)=true∧d.before r.day=false then (r.bp,true) else st)
def iF (l:List Rate) (cat:List UInt8) (d:Date):Int×Bool:=if fY l=false then (0,false) else if d.right=false then (0,false) else aO (jF cat d) id l (0,false)
theorem uC {l:List Rate} (h:fY l=true):l.length≤24:=by
 unfold fY at h
 split at h
 ·cases h
 ·omega
def kI (r:Rate) (k:Nat) (x:Rate):Option Nat⊕Nat:=
 if (x.cat == r.cat)=true∧x.day=r.day then .inl none else .inr (if fO x r=true then k+1 else k)
def gV (l:List Rate) (r:Rate):List Rate×Int:=
 if fY l=false then ([],1) else if tZ r≠0 then ([],tZ r) else match aO (kI r) some l 0 with
  | none=>([],12)
  | some k=>if 24≤l.length then ([],2) else (eH l k r,0)
structure Bal where
 acc:List UInt8
 amount:Int
deriving DecidableEq
def Bal.enc (b:Bal):List V:=[.str b.acc,.int .i64 b.amount]
structure Part where
 cat:List UInt8
 bp:Int
 net:Int
 tax:Int
deriving DecidableEq
def Part.enc (p:Part):List V:=[.str p.cat,.int .i64 p.bp,.int .i64 p.net,.int .i64 p.tax]
structure Total where
 net:Int
 tax:Int
 gross:Int
 parts:List Part
deriving DecidableEq
def Total.cells (t:Total) (pv:V):List V:=[.int .i64 t.net,.int .i64 t.tax,.int .i64 t.gross,pv]
def mG (prev:Option Bal) (b:Bal):Bool⊕Option Bal:=match prev with
 | none=>.inl false
 | some p=>if eZ p.acc b.acc=true then .inr (some b) else .inl false
def pZ (l:List Bal):Bool:=aO mG (fun _=>true) (l.drop 1) l[0]?
def iG:List UInt8:=[110,101,116,47]
def iH:List UInt8:=[116,97,120,47]
def gW (l:List Bal) (p:Part):(List Bal×Int)⊕List Bal:=
 if (jX 0 p.net).2≠0 then .inl ([],7) else if (jX 0 p.tax).2≠0 then .inl ([],7) else .inr (l++[⟨iG++p.cat,(jX 0 p.net).1⟩,⟨iH++p.cat,(jX 0 p.tax).1⟩])
def dX (t:Total):List Bal×Int:=aO gW (fun l=>(l,0)) t.parts [⟨[111,119,101,100],t.gross⟩]
theorem aI2:∀ (l:List Part) (a:List Bal) (r:List Bal×Int),aO gW (fun l=>(l,0)) l a=r→r.2=0→r.1.length=a.length+2*l.length
 | [],a,r,h,_=>by subst h;simp [aO]
 | p::l,a,r,h,h0=>by
  simp only [aO,gW] at h
  split at h
  ·rename_i r' he
   split at he
   ·cases he;subst h;cases h0
   ·split at he
    ·cases he;subst h;cases h0
    ·cases he
  ·rename_i s' he
   split at he
   ·cases he
   ·split at he
    ·cases he
    ·cases he
     have:=aI2 l _ r h h0
     simp only [List.length_append,List.length_cons,List.length_nil] at this ⊢
     omega
theorem sE {α:Type} (l:List α) (i:Nat) (a:α) (h:i≤l.length):(eH l i a)[i]?=some a:=by
 unfold eH
 rw [List.getElem?_append_right (by rw [List.length_take];omega),List.length_take,Nat.min_eq_left h,Nat.sub_self]
 rfl
theorem xP {α:Type} (l:List α) (i:Nat) (a:α) (h:i≤l.length):(eH l i a).length=l.length+1:=by
 simp only [eH,List.length_append,List.length_take,List.length_cons,List.length_drop];omega
def bV (l:List Bal) (acc:List UInt8):Nat:=lB (fun b=>eZ b.acc acc) l
def kJ (l:List Bal) (acc:List UInt8):Bool:=match l[bV l acc]? with
 | none=>true
 | some b=>!(b.acc == acc)
def cP (l:List Bal) (acc:List UInt8):List Bal:=if kJ l acc=true then eH l (bV l acc) ⟨acc,0⟩ else l
def bT (l:List Bal) (x:Bal):(List Bal×Int)⊕List Bal:=match (cP l x.acc)[bV l x.acc]? with
 | none=>.inl ([],0)
 | some b=>if (cM b.amount x.amount).2≠0 then .inl ([],(cM b.amount x.amount).2) else .inr ((cP l x.acc).set (bV l x.acc) ⟨b.acc,(cM b.amount x.amount).1⟩)
def cD (book l:List Bal):List Bal×Int:=if pZ book=false then ([],1) else aO bT (fun l=>(l,0)) l book
theorem nH (l:List Bal) (acc:List UInt8):bV l acc≤l.length:=vZ _ _
theorem gQ (l:List Bal) (acc:List UInt8):∃ b,(cP l acc)[bV l acc]?=some b:=by
 unfold cP
 split
 ·exact ⟨_,sE _ _ _ (nH l acc)⟩
 ·rename_i h
  unfold kJ at h
  split at h
  ·exact absurd rfl h
  ·rename_i b hb;exact ⟨b,hb⟩
theorem yY (l:List Bal) (acc:List UInt8):(cP l acc).length≤l.length+1:=by
 unfold cP
 split
 ·rw [xP _ _ _ (nH l acc)];exact Nat.le_refl _
 ·omega
theorem pL (l:List Bal) (x:Bal):bT l x=if (cM ((cP l x.acc)[bV l x.acc]?.map (·.amount) |>.getD 0) x.amount).2≠0 then .inl ([],(cM ((cP l x.acc)[bV l x.acc]?.map (·.amount) |>.getD 0) x.amount).2)
  else .inr ((cP l x.acc).set (bV l x.acc) ⟨((cP l x.acc)[bV l x.acc]?.map (·.acc) |>.getD []),(cM ((cP l x.acc)[bV l x.acc]?.map (·.amount) |>.getD 0) x.amount).1⟩):=by
 obtain ⟨b,hb⟩:=gQ l x.acc
 unfold bT
 simp only [hb,Option.map_some,Option.getD_some]
theorem aCx {l l':List Bal} {x:Bal} (h:bT l x=.inr l'):l'.length≤l.length+1:=by
 rw [pL] at h
 split at h
 ·cases h
 ·cases h
  rw [List.length_set]
  exact yY l x.acc
theorem aBq:∀ (l:List Bal) (a:List Bal) (r:List Bal×Int),aO bT (fun l=>(l,0)) l a=r→r.1.length≤a.length+l.length
 | [],a,r,h=>by subst h;simp [aO]
 | x::l,a,r,h=>by
  simp only [aO] at h
  split at h
  ·rename_i r' he
   subst h
   rw [pL] at he
   split at he
   ·cases he;simp
   ·cases he
  ·rename_i s' he
   have h1:=aCx he
   have:=aBq l _ r h
   simp only [List.length_cons]
   omega
def hY (n:Int):List V:=[.int .i64 n]
theorem aNv (n:Int):0≤wr .u64 n∧wr .u64 n<18446744073709551616:=by
 unfold wr lo hi
 simp only
 split
 ·omega
 ·show 0≤n % 18446744073709551616∧n % 18446744073709551616<18446744073709551616
  omega
theorem bFd:aNu 0=18446744073709551615:=by decide
def sF (st:Int×Int) (n:Int):(Int×Bool)⊕(Int×Int):=
 .inr ((st.1+(if n<0 then 18446744073709551615 else 0)+(st.2+wr .u64 n+0) / 18446744073709551616) % 18446744073709551616,(st.2+wr .u64 n+0) % 18446744073709551616)
def rA (st:Int×Int):Int×Bool:=(wr .i64 st.2,if st.2.fdiv (2 ^ 63)=0 then decide (st.1=0) else decide (st.1=18446744073709551615))
def hZ (l:List Int):Int×Bool:=aO sF rA l (0,0)
structure Line where
 text:List UInt8
 cat:List UInt8
 count:Int
 price:Int
deriving DecidableEq
def Line.enc (l:Line):List V:=[.str l.text,.str l.cat,.int .i64 l.count,.int .i64 l.price]
def fF (tab:List Rate) (d:Date) (l:Line):Int×Int×Int:=
 if 64<l.text.length then (0,0,2) else if eN l.cat=false then (0,0,8) else if l.count<1∨1048576<l.count then (0,0,1) else
  if (iF tab l.cat d).2=false then (0,0,10) else ((iF tab l.cat d).1,(aKd l.count l.price).1,(aKd l.count l.price).2)
def aQ9 (r:Int×Int×Int):V:=.tup [.int .i64 r.1,.int .i64 r.2.1,.int .i64 r.2.2]
def bU (l:List Part) (cat:List UInt8):Nat:=lB (fun p=>eZ p.cat cat) l
def jG (l:List Part) (cat:List UInt8):Bool:=match l[bU l cat]? with
 | none=>true
 | some b=>!(b.cat == cat)
def dT (l:List Part) (cat:List UInt8) (bp:Int):List Part:=if jG l cat=true then eH l (bU l cat) ⟨cat,bp,0,0⟩ else l
def qF (l:List Part) (cat:List UInt8) (bp n:Int):List Part×Int:=match (dT l cat bp)[bU l cat]? with
 | none=>([],0)
 | some p=>((dT l cat bp).set (bU l cat) { p with net:=(cM p.net n).1 },(cM p.net n).2)
theorem pM (l:List Part) (cat:List UInt8):bU l cat≤l.length:=vZ _ _
theorem pN (l:List Part) (cat:List UInt8) (bp:Int):∃ b,(dT l cat bp)[bU l cat]?=some b:=by
 unfold dT
 split
 ·exact ⟨_,sE _ _ _ (pM l cat)⟩
 ·rename_i h
  unfold jG at h
  split at h
  ·exact absurd rfl h
  ·rename_i b hb;exact ⟨b,hb⟩
theorem aGe (l:List Part) (cat:List UInt8) (bp:Int):(dT l cat bp).length≤l.length+1:=by
 unfold dT
 split
 ·rw [xP _ _ _ (pM l cat)];exact Nat.le_refl _
 ·omega
theorem aI3 (l:List Part) (cat:List UInt8) (bp n:Int):(qF l cat bp n).1.length≤l.length+1:=by
 obtain ⟨b,hb⟩:=pN l cat bp
 unfold qF
 rw [hb]
 simp only [List.length_set]
 exact aGe l cat bp
def Total.zero:Total:=⟨0,0,0,[]⟩
def fX (st:Int×Int×List Part) (p:Part):(Total×Int)⊕(Int×Int×List Part):=
 if (cH p.net p.bp).2≠0∨(cM st.1 p.net).2≠0∨(cM st.2.1 (cH p.net p.bp).1).2≠0 then .inl (Total.zero,7) else
  .inr ((cM st.1 p.net).1,(cM st.2.1 (cH p.net p.bp).1).1,st.2.2++[{ p with tax:=(cH p.net p.bp).1 }])
def kU (st:Int×Int×List Part):Total×Int:=
 if (cM st.1 st.2.1).2≠0 then (Total.zero,(cM st.1 st.2.1).2) else (⟨st.1,st.2.1,(cM st.1 st.2.1).1,st.2.2⟩,0)
def eV (l:List Part):Total×Int:=aO fX kU l (0,0,[])
def iJ (tab:List Rate) (d:Date) (parts:List Part) (l:Line):(Total×Int)⊕List Part:=
 if (fF tab d l).2.2≠0 then .inl (Total.zero,(fF tab d l).2.2) else
  if (qF parts l.cat (fF tab d l).1 (fF tab d l).2.1).2≠0 then .inl (Total.zero,(qF parts l.cat (fF tab d l).1 (fF tab d l).2.1).2) else
   .inr (qF parts l.cat (fF tab d l).1 (fF tab d l).2.1).1
def dM (tab:List Rate) (d:Date) (lines:List Line):Total×Int:=
 if fY tab=false then (Total.zero,1) else if d.right=false then (Total.zero,9) else if lines.length=0 then (Total.zero,1) else if 12<lines.length then (Total.zero,2) else
  aO (iJ tab d) eV lines []
structure But (a:Nat) (S S':St):Prop where
 old:∀ y b,y≠a→S.heap.get y=some b→S'.heap.get y=some b
 next:S.next≤S'.next
 wf:WF S→WF S'
def oM (n:Int):V:=.int .i64 n
def sG (done:List Int) (x:Int):(List Int×Int)⊕List Int:=if (jX 0 x).2≠0 then .inl ([],(jX 0 x).2) else .inr (done++[(jX 0 x).1])
def gX (l:List Int):List Int×Int:=aO sG (fun l=>(l,0)) l []
def eC (acc:List Part) (p:Part):(List Part×Int)⊕List Part:=
 if (gX [p.net,p.tax]).2≠0 then .inl ([],(gX [p.net,p.tax]).2) else .inr (acc++[{ p with net:=(gX [p.net,p.tax]).1.getD 0 0,tax:=(gX [p.net,p.tax]).1.getD 1 0 }])
def bW (t:Total):Total×Int:=
 if (gX [t.net,t.tax,t.gross]).2≠0 then (Total.zero,(gX [t.net,t.tax,t.gross]).2) else
  if (aO eC (fun l=>(l,0)) t.parts []).2≠0 then (Total.zero,(aO eC (fun l=>(l,0)) t.parts []).2) else
   (⟨(gX [t.net,t.tax,t.gross]).1.getD 0 0,(gX [t.net,t.tax,t.gross]).1.getD 1 0,(gX [t.net,t.tax,t.gross]).1.getD 2 0,(aO eC (fun l=>(l,0)) t.parts []).1⟩,0)
structure Ref where
 ser:List UInt8
 num:Int
deriving DecidableEq
def Ref.enc (r:Ref):List V:=[.str r.ser,.int .i64 r.num]
def Ref.zero:Ref:=⟨[],0⟩
structure Posted where
 ref:Ref
 day:Date
 total:Total
 of:Ref
 back:Bool
deriving DecidableEq
def Posted.cells (p:Posted) (pv:V):List V:=[.str p.ref.ser,.int .i64 p.ref.num,.int .i64 p.day.y,.int .i64 p.day.m,.int .i64 p.day.d,.int .i64 p.total.net,.int .i64 p.total.tax,.int .i64 p.total.gross,pv,.str p.of.ser,.int .i64 p.of.num,.bool p.back]
abbrev PV:=Posted×V
theorem aXk {α β:Type} (f:α→β) (p:β→Bool) (l:List α):ixM (fun a=>p (f a)) l=ixM p (l.map f):=by
 have:∀ (l:List α) (n:Nat),aO (eU fun a=>p (f a)) (fun _=>(-1:Int)) l n=aO (eU p) (fun _=>-1) (l.map f) n:=by
  intro l
  induction l with
  | nil=>intro n;rfl
  | cons a l ih=>
   intro n
   simp only [aO,List.map_cons,eU]
   by_cases h:p (f a)=true
   ·simp only [h,if_true]
   ·simp only [h,if_false]
    exact ih (n+1)
 exact this l 0
def cO (l:List Posted) (r:Ref):Int:=ixM (fun p:Posted=>decide (p.ref=r)) l
theorem lN (l:List Posted) (r:Ref):cO l r=-1∨∃ (i:Nat) (s:Posted),cO l r=(i:Int)∧l[i]?=some s∧s.ref=r:=by
 rcases sD (fun p:Posted=>decide (p.ref=r)) l with h | ⟨i,s,h1,h2,h3⟩
 ·exact .inl h
 ·exact .inr ⟨i,s,h1,h2,by simpa using h3⟩
def pO {α:Type} [DecidableEq α] (r:List α) (n:Nat) (a:α):Bool⊕Nat:=if r[n]?=some a then .inr (n+1) else .inl false
theorem eqL {α:Type} [DecidableEq α] {l r:List α} (h:l.length=r.length):aO (pO r) (fun _=>true) l 0=decide (l=r):=by
 have:∀ (l t r:List α),l.length=(r.drop t.length).length→r.take t.length=t→aO (pO r) (fun _=>true) l t.length=decide (l=r.drop t.length):=by
  intro l
  induction l with
  | nil=>
   intro t r h1 h2
   have:r.drop t.length=[]:=List.length_eq_zero_iff.1 h1.symm
   rw [this];rfl
  | cons a l ih=>
   intro t r h1 h2
   have hlt:t.length<r.length:=by rw [List.length_drop] at h1;simp only [List.length_cons] at h1;omega
   rw [List.drop_eq_getElem_cons hlt]
   simp only [aO,pO,List.getElem?_eq_getElem hlt]
   by_cases c:r[t.length]=a
   ·have e1:(t++[a]).length=t.length+1:=by simp
    have:=ih (t++[a]) r (by rw [e1];rw [List.length_drop] at h1 ⊢;simp only [List.length_cons] at h1;omega) (by rw [e1,List.take_succ_eq_append_getElem hlt,h2,c])
    rw [e1] at this
    simp only [c,if_true]
    rw [this]
    by_cases d:l=r.drop (t.length+1)<;>simp [d]
   ·have c':¬ (some r[t.length]=some a):=fun e=>c (Option.some.inj e)
    simp only [c',if_false]
    rw [eq_comm,decide_eq_false_iff_not]
    intro e
    exact c (List.cons.inj e).1.symm
 have:=this l [] r (by simpa using h) rfl
 simpa using this
def blkOf:V→Option Nat
 | .sl a _ _ _ _=>some a
 | _=>none
def sY (t:Total):Bool:=
 if (hZ (t.parts.map (·.net))).2=true then (if (hZ (t.parts.map (·.tax))).2=true then (if (hZ [t.net,t.tax]).2=true then
  (if (hZ (t.parts.map (·.net))).1=t.net then (if (hZ (t.parts.map (·.tax))).1=t.tax then decide ((hZ [t.net,t.tax]).1=t.gross) else false) else false) else false) else false) else false
def aAg (st:List Int×List Int) (p:Part):(List Int×List Int)⊕(List Int×List Int):=.inr (st.1++[p.net],st.2++[p.tax])
theorem bFe:∀ (l:List Part) (a b:List Int),aO aAg id l (a,b)=(a++l.map (·.net),b++l.map (·.tax))
 | [],a,b=>by simp [aO]
 | p::l,a,b=>by simp only [aO,aAg];rw [bFe l];simp
def lX (prev:Option Part) (s:Part):Bool:=match prev with
 | none=>false
 | some p=>!eZ p.cat s.cat
def wF (s:Part):Bool:=decide (s.bp<0)||decide (100000<s.bp)
def wG (s:Part):Bool:=!decide ((cH s.net s.bp).2=0)||!decide ((cH s.net s.bp).1=s.tax)
def fG (prev:Option Part) (s:Part):Bool⊕Option Part:=
 if eN s.cat=false then .inl false else if lX prev s=true then .inl false else if wF s=true then .inl false else if wG s=true then .inl false else .inr (some s)
def dU (t:Total):Bool:=if t.parts.length<1 then false else if 12<t.parts.length then false else aO fG (fun _=>sY t) t.parts none
def nQ (p fr:Posted):Bool:=if fr.of=Ref.zero then (if p.day.before fr.day=false then (if (bW fr.total).2=0 then decide ((bW fr.total).1=p.total) else false) else false) else false
theorem aDs:∀ (l a:List Part) (r:List Part×Int),aO eC (fun l=>(l,0)) l a=r→r.1.length≤a.length+l.length
 | [],a,r,h=>by subst h;simp [aO]
 | x::l,a,r,h=>by
  simp only [aO] at h
  split at h
  ·rename_i r' he
   subst h
   unfold eC at he
   split at he
   ·cases he;simp
   ·cases he
  ·rename_i a' he
   unfold eC at he
   split at he
   ·cases he
   ·cases he
    have:=aDs l _ r h
    simp only [List.length_append,List.length_cons,List.length_nil] at this ⊢
    omega
theorem xQ (t:Total):(bW t).1.parts.length≤t.parts.length:=by
 unfold bW
 split
 ·simp [Total.zero]
 ·split
  ·simp [Total.zero]
  ·have:=aDs t.parts [] _ rfl
   simpa using this
def bS (book:List Bal) (p:Posted):(List Bal×Int)⊕List Bal:=
 if (dX p.total).2≠0 then .inl ([],(dX p.total).2) else if (cD book (dX p.total).1).2≠0 then .inl ([],(cD book (dX p.total).1).2) else .inr (cD book (dX p.total).1).1
def eE (l:List Posted):List Bal×Int:=aO bS (fun b=>(b,0)) l []
theorem uD (book l:List Bal):(cD book l).1.length≤book.length+l.length:=by
 unfold cD
 split
 ·simp
 ·exact aBq l book _ rfl
theorem wH (t:Total):(dX t).1.length≤1+2*t.parts.length∨(dX t).2≠0:=by
 by_cases h:(dX t).2=0
 ·exact .inl (by have:=aI2 t.parts _ _ rfl h;simp only [List.length_cons,List.length_nil] at this;unfold dX;omega)
 ·exact .inr h
def aCy:List V:=[.str [],.int .i64 0,.int .i64 0,.int .i64 0,.int .i64 0,.int .i64 0,.int .i64 0,.int .i64 0,.nils,.str [],.int .i64 0,.bool false]
def Fit (p:Posted):Prop:=p.total.parts.length≤12∧∀ q∈p.total.parts,q.cat.length≤1000000
def bump (l:List Int) (k:Nat):List Int:=l.set k (l.getD k 0+1)
def fU (st:List Posted×List Int) (p:Posted):Bool⊕(List Posted×List Int):=
 if p.day.right=false then .inl false else if dU p.total=false then .inl false else if p.of=Ref.zero then .inr (st.1++[p],st.2) else
  if cO st.1 p.of<0 then .inl false else if nQ p (st.1.getD (cO st.1 p.of).toNat ⟨Ref.zero,⟨0,0,0⟩,Total.zero,Ref.zero,false⟩)=false then .inl false else
   .inr (st.1++[p],bump st.2 (cO st.1 p.of).toNat)
def gY (bs:List Int) (p:Posted):Bool⊕List Int:=if 1<bs.headD 0 then .inl false else if p.back=decide (bs.headD 0=1) then .inr bs.tail else .inl false
def iK (l:List Posted):Bool:=if 40<l.length then false else aO fU (fun st=>aO gY (fun _=>true) l st.2) l ([],List.replicate 40 0)
theorem iS {t:Total} (h:dU t=true):t.parts.length≤12:=by
 unfold dU at h
 split at h
 ·cases h
 ·split at h
  ·cases h
  ·omega
theorem wI (l:List Int) (k:Nat) (h:k<l.length):l.getD k 0=l[k]:=by rw [List.getD_eq_getElem?_getD,List.getElem?_eq_getElem h];rfl
structure State where
 table:List Rate
 ser:List Ser
 posted:List Posted
 book:List Bal
 sess:List Sess
 next:Int
deriving DecidableEq
structure SV where
 t:V
 s:V
 p:V
 b:V
 e:V
 qs:List PV
def SV.cells (x:SV) (n:Int):List V:=[x.t,x.s,x.p,x.b,x.e,.int .i64 n]
def kK (ser:List Ser) (is:List Int) (p:Posted):Bool⊕List Int:=
 if iD ser p.ref.ser<0 then .inl false else if p.ref.num=(bump is (iD ser p.ref.ser).toNat).getD (iD ser p.ref.ser).toNat 0 then .inr (bump is (iD ser p.ref.ser).toNat) else .inl false
def jH (is:List Int) (s:Ser):Bool⊕List Int:=if s.next=is.headD 0+1 then .inr is.tail else .inl false
def mH (ser:List Ser) (l:List Posted):Bool:=aO (kK ser) (fun is=>aO jH (fun _=>true) ser is) l (List.replicate 8 0)
theorem wJ (l:List Int) (k:Nat):(bump l k).length=l.length:=List.length_set ..
theorem aQa (l:List Int) (k:Nat) (h:k<l.length):(bump l k).getD k 0=l[k]+1:=by
 rw [List.getD_eq_getElem?_getD,bump,List.getElem?_set_self h,wI l k h];rfl
def aBr (l:List Sess) (next:Int):Bool:=match l[l.length - 1]? with
 | none=>true
 | some s=>decide (s.id<next)
def jY (s:State):Bool:=if gE s.sess=true then (if 1≤s.next then (if s.next≤1099511627776 then aBr s.sess s.next else false) else false) else false
theorem aBs {σ α:Type} {step:σ→α→Bool⊕σ} {fin:σ→Bool} (hs:∀ s a r,step s a=.inl r→r=false):∀ (l:List α) (s:σ),aO step fin l s=true→∀ a∈l,∃ s s',step s a=.inr s'
 | [],s,h,a,ha=>by cases ha
 | b::l,s,h,a,ha=>by
  simp only [aO] at h
  split at h
  ·rename_i r he
   have:=hs s b r he
   rw [this] at h;cases h
  ·rename_i s' he
   rcases List.mem_cons.1 ha with rfl | ha
   ·exact ⟨s,s',he⟩
   ·exact aBs hs l s' h a ha
theorem aDt {s:List UInt8} (h:eN s=true):s.length≤24:=by
 unfold eN at h
 split at h
 ·cases h
 ·split at h
  ·cases h
  ·omega
theorem aGf {t:Total} (h:dU t=true):∀ q∈t.parts,eN q.cat=true:=by
 unfold dU at h
 split at h
 ·cases h
 ·split at h
  ·cases h
  ·intro q hq
   obtain ⟨s,s',he⟩:=aBs (fun s a r hr=>by
    unfold fG at hr
    repeat' split at hr
    all_goals cases hr
    all_goals rfl) t.parts none h q hq
   unfold fG at he
   split at he
   ·cases he
   ·rename_i hn;simpa using hn
theorem yZ {p:Posted} (h:dU p.total=true):Fit p:=⟨iS h,fun q hq=>by have:=aDt (aGf h q hq);omega⟩
theorem mI {l:List Posted} (h:iK l=true):l.length≤40∧∀ p∈l,p.day.right=true∧dU p.total=true:=by
 unfold iK at h
 split at h
 ·cases h
 ·refine ⟨by omega,fun p hp=>?_⟩
  obtain ⟨s,s',he⟩:=aBs (fun s a r hr=>by
   unfold fU at hr
   repeat' split at hr
   all_goals cases hr
   all_goals rfl) l _ h p hp
  unfold fU at he
  split at he
  ·cases he
  ·rename_i h1
   split at he
   ·cases he
   ·rename_i h2
    exact ⟨by simpa using h1,by simpa using h2⟩
def bZ (s:State):Bool:=if fY s.table=false then false else if mT s.ser=false then false else if jY s=false then false else if iK s.posted=false then false else
 if mH s.ser s.posted=false then false else if (eE s.posted).2=0 then decide ((eE s.posted).1=s.book) else false
theorem rC:∀ (l:List Posted) (a:List Bal) (r:List Bal×Int),(∀ p∈l,p.total.parts.length≤12)→aO bS (fun b=>(b,0)) l a=r→r.1.length≤a.length+25*l.length
 | [],a,r,_,h=>by subst h;simp [aO]
 | p::l,a,r,hp,h=>by
  simp only [aO] at h
  split at h
  ·rename_i r' he
   subst h
   unfold bS at he
   repeat' split at he
   all_goals cases he
   all_goals simp
  ·rename_i a' he
   unfold bS at he
   split at he
   ·cases he
   ·rename_i h1
    split at he
    ·cases he
    ·cases he
     have h2:=(wH p.total).resolve_right h1
     have h3:=uD a (dX p.total).1
     have h4:=hp p (List.mem_cons_self ..)
     have:=rC l _ r (fun q hq=>hp q (List.mem_cons_of_mem _ hq)) h
     simp only [List.length_cons]
     omega
def State.new:State:=⟨[],[],[],[],[],1⟩
def SV.new:SV:=⟨.nils,.nils,.nils,.nils,.nils,[]⟩
structure Bnd (s:State):Prop where
 bt:s.table.length≤100000
 bs:s.ser.length≤100000
 bp:s.posted.length≤100000
 bb:s.book.length≤100000
 be:s.sess.length≤100000
 bq:∀ p∈s.posted,p.total.parts.length≤100000
def aYf:List UInt8:=[111,119,101,100]
def wK (g:Int) (b:Bal):Int⊕Int:=.inr (if (b.acc == aYf)=true then b.amount else g)
def aI4 (s:State) (name:List UInt8):Rep:=if (kH s.ser name).2=false then ⟨11,0,0⟩ else ⟨0,wr .i64 ((kH s.ser name).1.next - 1),aO wK id s.book 0⟩
def why (e:Int):Rep:=⟨e,0,0⟩
def bO (s:State) (name:List UInt8) (p:Posted):State×Rep:=
 if (dE s.ser name).2.2≠0 then (s,why (dE s.ser name).2.2) else if 40≤s.posted.length then (s,why 14) else
  if (dX p.total).2≠0 then (s,why (dX p.total).2) else if (cD s.book (dX p.total).1).2≠0 then (s,why (cD s.book (dX p.total).1).2) else
   ({ s with ser:=(dE s.ser name).1,book:=(cD s.book (dX p.total).1).1,posted:=s.posted++[{ p with ref:=⟨name,(dE s.ser name).2.1⟩ }] },⟨0,(dE s.ser name).2.1,p.total.gross⟩)
theorem aNw {P:List UInt8→Prop} {l:List Part} {cat:List UInt8} {bp n:Int} (h:∀ p∈l,P p.cat) (hc:P cat):∀ p∈(qF l cat bp n).1,P p.cat:=by
 have hroom:∀ p∈dT l cat bp,P p.cat:=by
  unfold dT
  split
  ·intro p hp
   rcases List.mem_append.1 hp with hp | hp
   ·exact h p (List.mem_of_mem_take hp)
   ·rcases List.mem_cons.1 hp with rfl | hp
    ·exact hc
    ·exact h p (List.mem_of_mem_drop hp)
  ·exact h
 unfold qF
 split
 ·intro p hp;cases hp
 ·rename_i q hq
  intro p hp
  rcases List.mem_or_eq_of_mem_set hp with hp | rfl
  ·exact hroom p hp
  ·exact hroom q (List.mem_of_getElem? hq)
theorem zA:∀ (l:List Part) (st:Int×Int×List Part) (r:Total×Int),aO fX kU l st=r→r.2=0→r.1.parts.map (·.cat)=st.2.2.map (·.cat)++l.map (·.cat)
 | [],st,r,h,h0=>by
  subst h
  simp only [aO,kU] at h0 ⊢
  split at h0
  ·rename_i hc;exact absurd h0 hc
  ·rename_i hc;rw [if_neg hc];simp
 | p::l,st,r,h,h0=>by
  simp only [aO] at h
  split at h
  ·rename_i r' he
   unfold fX at he
   split at he
   ·cases he;subst h;cases h0
   ·cases he
  ·rename_i st' he
   unfold fX at he
   split at he
   ·cases he
   ·cases he
    rw [zA l _ r h h0]
    simp
theorem aDu {tab:List Rate} {d:Date}:∀ (l:List Line) (parts:List Part) (r:Total×Int),(∀ p∈parts,eN p.cat=true)→aO (iJ tab d) eV l parts=r→r.2=0→(∀ p∈r.1.parts,eN p.cat=true)∧r.1.parts.length≤parts.length+l.length
 | [],parts,r,hp,h,h0=>by
  subst h
  simp only [aO] at h0 ⊢
  have:=zA parts (0,0,[]) _ rfl h0
  simp only [List.map_nil,List.nil_append] at this
  refine ⟨fun p hpm=>?_,?_⟩
  ·have hm:p.cat∈parts.map (·.cat):=by rw [←this];exact List.mem_map_of_mem hpm
   obtain ⟨q,hq,e⟩:=List.mem_map.1 hm
   rw [←e];exact hp q hq
  ·have hl:=congrArg List.length this
   rw [List.length_map,List.length_map] at hl
   exact Nat.le_of_eq hl
 | x::l,parts,r,hp,h,h0=>by
  simp only [aO] at h
  split at h
  ·rename_i r' he
   unfold iJ at he
   split at he
   ·rename_i hc;cases he;subst h;exact absurd h0 hc
   ·split at he
    ·rename_i hc;cases he;subst h;exact absurd h0 hc
    ·cases he
  ·rename_i s' he
   unfold iJ at he
   split at he
   ·cases he
   ·rename_i hc
    split at he
    ·cases he
    ·cases he
     have hn:eN x.cat=true:=by
      have hc0:(fF tab d x).2.2=0:=by omega
      unfold fF at hc0
      split at hc0
      ·cases hc0
      ·split at hc0
       ·cases hc0
       ·rename_i hh;simpa using hh
     have h1:=aI3 parts x.cat (fF tab d x).1 (fF tab d x).2.1
     obtain ⟨h2,h3⟩:=aDu l _ r (aNw (P:=fun c=>eN c=true) hp hn) h h0
     refine ⟨h2,?_⟩
     simp only [List.length_cons]
     omega
theorem uE {tab:List Rate} {d:Date} {l:List Line} (h:(dM tab d l).2=0):(dM tab d l).1.parts.length≤12∧∀ q∈(dM tab d l).1.parts,q.cat.length≤1000000:=by
 unfold dM at h ⊢
 split at h
 ·cases h
 ·rename_i c1
  rw [if_neg c1]
  split at h
  ·cases h
  ·rename_i c2
   rw [if_neg c2]
   split at h
   ·cases h
   ·rename_i c3
    rw [if_neg c3]
    split at h
    ·cases h
    ·rename_i c4
     rw [if_neg c4]
     obtain ⟨h1,h2⟩:=aDu l [] _ (fun _ h=>by cases h) rfl h
     refine ⟨by simp only [List.length_nil] at h2;omega,fun q hq=>by have:=aDt (h1 q hq);omega⟩
theorem aBt:∀ (l a:List Part) (r:List Part×Int),aO eC (fun l=>(l,0)) l a=r→r.2=0→r.1.map (·.cat)=a.map (·.cat)++l.map (·.cat)
 | [],a,r,h,h0=>by subst h;simp [aO]
 | x::l,a,r,h,h0=>by
  simp only [aO] at h
  split at h
  ·rename_i r' he
   subst h
   unfold eC at he
   split at he
   ·rename_i hc;cases he;exact absurd h0 hc
   ·cases he
  ·rename_i a' he
   unfold eC at he
   split at he
   ·cases he
   ·cases he
    rw [aBt l _ r h h0]
    simp
theorem aKf (t:Total) (h:(bW t).2=0):(bW t).1.parts.map (·.cat)=t.parts.map (·.cat):=by
 unfold bW at h ⊢
 split at h
 ·rename_i c;exact absurd h c
 ·rename_i c
  rw [if_neg c]
  split at h
  ·rename_i c2;exact absurd h c2
  ·rename_i c2
   rw [if_neg c2]
   have:=aBt t.parts [] _ rfl (by omega)
   simpa using this
theorem aNx {p:Posted} (hf:Fit p) (h:(bW p.total).2=0):(bW p.total).1.parts.length≤12∧∀ q∈(bW p.total).1.parts,q.cat.length≤1000000:=by
 have:=aKf p.total h
 refine ⟨by have:=xQ p.total;have:=hf.1;omega,fun q hq=>?_⟩
 have hm:q.cat∈p.total.parts.map (·.cat):=by rw [←this];exact List.mem_map_of_mem hq
 obtain ⟨q',hq',e⟩:=List.mem_map.1 hm
 rw [←e];exact hf.2 q' hq'
structure Cmd where
 kind:Int
 series:List UInt8
 limit:Int
 row:Rate
 day:Date
 lines:List Line
 of:Ref
 session:Int
def Cmd.cells (c:Cmd) (lv:V):List V:=[.int .i64 c.kind,.str c.series,.int .i64 c.limit,.str c.row.cat,.int .i64 c.row.day.y,.int .i64 c.row.day.m,.int .i64 c.row.day.d,.int .i64 c.row.bp,.int .i64 c.day.y,.int .i64 c.day.m,.int .i64 c.day.d,lv,.str c.of.ser,.int .i64 c.of.num,.int .i64 c.session]
def mJ (s:State) (c:Cmd):State×Rep:=
 if (dM s.table c.day c.lines).2≠0 then (s,why (dM s.table c.day c.lines).2) else bO s c.series ⟨Ref.zero,c.day,(dM s.table c.day c.lines).1,Ref.zero,false⟩
def Posted.zero:Posted:=⟨Ref.zero,⟨0,0,0⟩,Total.zero,Ref.zero,false⟩
def fP (l:List Posted) (k:Nat):List Posted:=match l[k]? with
 | none=>l
 | some p=>l.set k { p with back:=true }
def fV (s:State) (c:Cmd) (k:Nat) (p:Posted):State×Rep:=
 if p.back=true then (s,why 12) else if p.of=Ref.zero then
  (if c.day.right=false then (s,why 9) else if c.day.before p.day=true then (s,why 9) else if (bW p.total).2≠0 then (s,why (bW p.total).2) else
   if (bO s c.series ⟨Ref.zero,c.day,(bW p.total).1,c.of,false⟩).2.why=0 then
    ({ (bO s c.series ⟨Ref.zero,c.day,(bW p.total).1,c.of,false⟩).1 with posted:=fP (bO s c.series ⟨Ref.zero,c.day,(bW p.total).1,c.of,false⟩).1.posted k },(bO s c.series ⟨Ref.zero,c.day,(bW p.total).1,c.of,false⟩).2)
   else bO s c.series ⟨Ref.zero,c.day,(bW p.total).1,c.of,false⟩) else (s,why 12)
def fB (s:State) (c:Cmd):State×Rep:=
 if cO s.posted c.of<0 then (s,why 11) else fV s c (cO s.posted c.of).toNat (s.posted.getD (cO s.posted c.of).toNat Posted.zero)
theorem aGg (s:State) (name:List UInt8) (p:Posted):∃ l,(bO s name p).1.posted=s.posted++l:=by
 unfold bO
 repeat' split
 all_goals first | exact ⟨[],(List.append_nil _).symm⟩ | exact ⟨_,rfl⟩
def gF (s:State) (r:List Ser×Int):State×Rep:=if r.2=0 then ({ s with ser:=r.1 },why r.2) else (s,why r.2)
def kL (s:State) (r:List Rate×Int):State×Rep:=if r.2=0 then ({ s with table:=r.1 },why r.2) else (s,why r.2)
def iI (s:State) (r:List Sess×Int):State×Rep:=if r.2=0 then ({ s with sess:=r.1 },why r.2) else (s,why r.2)
def sZ (s:State) (c:Cmd):State×Rep:=
 if c.kind=1 then gF s (fA s.ser c.series c.limit) else if c.kind=2 then gF s (oL s.ser c.series) else if c.kind=3 then kL s (gV s.table c.row) else
  if c.kind=4 then mJ s c else if c.kind=5 then fB s c else if c.kind=7 then iI s (gA s.sess c.session) else (s,aI4 s c.series)
def gG (s:State):State×Rep:=
 if 8≤s.sess.length∨1099511627776≤s.next then (s,why 14) else if (nF s.sess s.next).2≠0 then (s,why (nF s.sess s.next).2) else
  ({ s with sess:=(nF s.sess s.next).1,next:=wr .i64 (s.next+1) },⟨0,s.next,0⟩)
structure Call where
 session:Int
 seq:Int
 cmd:Cmd
def Call.cells (c:Call) (lv:V):List V:=[.int .i64 c.session,.int .i64 c.seq]++c.cmd.cells lv
def gZ (r:State×Rep) (c:Call):State×Rep:=if (jN r.1.sess c.session c.seq r.2).2=0 then ({ r.1 with sess:=(jN r.1.sess c.session c.seq r.2).1 },r.2) else r
def fQ (s:State) (c:Call):State×Rep:=
 if bZ s=false then (s,why 1) else if c.cmd.kind<1∨8<c.cmd.kind then (s,why 17) else if c.cmd.kind=6 then gG s else
  if (cN s.sess c.session c.seq).2.2≠0 then (s,why (cN s.sess c.session c.seq).2.2) else if (cN s.sess c.session c.seq).2.1=true then (s,(cN s.sess c.session c.seq).1) else gZ (sZ s c.cmd) c
theorem nR {s:State} (h:bZ s=true):iK s.posted=true:=by
 unfold bZ at h
 repeat' split at h
 all_goals first | cases h | skip
 rename_i h4 _ _
 simpa using h4
structure Sml (s:State):Prop where
 st:s.table.length≤1000
 ss:s.ser.length≤1000
 sp:s.posted.length≤1000
 sb:s.book.length≤10000
 se:s.sess.length≤1000
 sq:∀ p∈s.posted,p.total.parts.length≤1000
theorem Sml.bnd {s:State} (h:Sml s):Bnd s:=⟨by have:=h.st;omega,by have:=h.ss;omega,by have:=h.sp;omega,by have:=h.sb;omega,by have:=h.se;omega,fun p hp=>by have:=h.sq p hp;omega⟩
theorem Sml.new:Sml State.new:=⟨by decide,by decide,by decide,by decide,by decide,fun p hp=>by cases hp⟩
theorem rE {s:State} (h:bZ s=true):s.table.length≤24∧s.ser.length≤8∧s.sess.length≤8∧s.posted.length≤40∧s.book.length≤1000∧(∀ p∈s.posted,p.total.parts.length≤12)∧s.book=(eE s.posted).1:=by
 unfold bZ at h
 split at h
 ·cases h
 ·rename_i h1
  split at h
  ·cases h
  ·rename_i h2
   split at h
   ·cases h
   ·rename_i h3
    split at h
    ·cases h
    ·rename_i h4
     split at h
     ·cases h
     ·split at h
      ·have hb:=of_decide_eq_true h
       have h4':iK s.posted=true:=by simpa using h4
       obtain ⟨p1,p2⟩:=mI h4'
       have hparts:∀ p∈s.posted,p.total.parts.length≤12:=fun p hp=>iS (p2 p hp).2
       have hl:=rC s.posted [] (eE s.posted) hparts rfl
       have hs:gE s.sess=true:=by
        unfold jY at h3
        by_cases c:gE s.sess=true
        ·exact c
        ·rw [if_neg c] at h3;exact absurd rfl h3
       refine ⟨uC (by simpa using h1),oK (by simpa using h2),lV hs,p1,?_,hparts,hb.symm⟩
       rw [←hb]
       simp only [List.length_nil] at hl
       omega
      ·cases h
theorem aBu {s:State} (h:Sml s) (h1:s.ser.length≤8) (h2:s.posted.length≤40) (h3:s.book.length≤1000) (name:List UInt8) (p:Posted) (hp:p.total.parts.length≤12):Sml (bO s name p).1:=by
 unfold bO
 split
 ·exact h
 ·split
  ·exact h
  ·split
   ·exact h
   ·rename_i c3
    split
    ·exact h
    ·refine ⟨h.st,?_,?_,?_,h.se,?_⟩
     ·show (dE s.ser name).1.length≤1000
      unfold dE
      repeat' split
      all_goals simp
      omega
     ·show (s.posted++_).length≤1000
      simp only [List.length_append,List.length_cons,List.length_nil];omega
     ·show (cD s.book (dX p.total).1).1.length≤10000
      have:=uD s.book (dX p.total).1
      have:=(wH p.total).resolve_right c3
      omega
     ·intro q hq
      rcases List.mem_append.1 hq with hq | hq
      ·exact h.sq q hq
      ·rw [List.mem_singleton.1 hq]
       show p.total.parts.length≤1000
       omega
theorem aI5 (l:List Posted) (k:Nat) (h:∀ p∈l,p.total.parts.length≤1000):(fP l k).length=l.length∧∀ p∈fP l k,p.total.parts.length≤1000:=by
 unfold fP
 split
 ·exact ⟨rfl,h⟩
 ·rename_i p hp
  refine ⟨List.length_set ..,fun q hq=>?_⟩
  rcases List.mem_or_eq_of_mem_set hq with hq | rfl
  ·exact h q hq
  ·exact h p (List.mem_of_getElem? hp)
theorem oN {α:Type} (l:List α) (i:Nat) (a:α):(eH l i a).length≤l.length+1:=by
 simp only [eH,List.length_append,List.length_cons,List.length_take,List.length_drop];omega
theorem aXl {s:State} (h:Sml s) (hr:bZ s=true) (c:Cmd):Sml (sZ s c).1:=by
 obtain ⟨r1,r2,r3,r4,r5,r6,_⟩:=rE hr
 unfold sZ
 split
 ·unfold gF
  split
  ·refine ⟨h.st,?_,h.sp,h.sb,h.se,h.sq⟩
   show (fA s.ser c.series c.limit).1.length≤1000
   unfold fA
   repeat' split
   all_goals first | (simp;done) | (refine Nat.le_trans (oN _ _ _) ?_;omega)
  ·exact h
 ·split
  ·unfold gF
   split
   ·refine ⟨h.st,?_,h.sp,h.sb,h.se,h.sq⟩
    show (oL s.ser c.series).1.length≤1000
    unfold oL
    repeat' split
    all_goals simp
    omega
   ·exact h
  ·split
   ·unfold kL
    split
    ·refine ⟨?_,h.ss,h.sp,h.sb,h.se,h.sq⟩
     show (gV s.table c.row).1.length≤1000
     unfold gV
     repeat' split
     all_goals first | (simp;done) | (refine Nat.le_trans (oN _ _ _) ?_;omega)
    ·exact h
   ·split
    ·unfold mJ
     split
     ·exact h
     ·rename_i c1
      exact aBu h r2 r4 r5 _ _ (uE (by omega)).1
    ·split
     ·unfold fB
      split
      ·exact h
      ·rename_i c1
       unfold fV
       split
       ·exact h
       ·split
        ·split
         ·exact h
         ·split
          ·exact h
          ·split
           ·exact h
           ·rename_i c4
            have hpar:(s.posted.getD (cO s.posted c.of).toNat Posted.zero).total.parts.length≤12:=by
             rw [List.getD_eq_getElem?_getD]
             cases hg:s.posted[(cO s.posted c.of).toNat]? with
             | none=>exact Nat.zero_le _
             | some p=>exact r6 p (List.mem_of_getElem? hg)
            have hbl:=xQ (s.posted.getD (cO s.posted c.of).toNat Posted.zero).total
            have hi:=aBu h r2 r4 r5 c.series ⟨Ref.zero,c.day,(bW (s.posted.getD (cO s.posted c.of).toNat Posted.zero).total).1,c.of,false⟩ (Nat.le_trans hbl hpar)
            split
            ·obtain ⟨e1,e2⟩:=aI5 _ (cO s.posted c.of).toNat hi.sq
             exact ⟨hi.st,hi.ss,by rw [e1];exact hi.sp,hi.sb,hi.se,e2⟩
            ·exact hi
        ·exact h
     ·split
      ·unfold iI
       split
       ·refine ⟨h.st,h.ss,h.sp,h.sb,?_,h.sq⟩
        show (gA s.sess c.session).1.length≤1000
        unfold gA
        repeat' split
        all_goals first | (simp;done) | (simp only [uA,List.length_append,List.length_take,List.length_drop];omega)
       ·exact h
      ·exact h
theorem aNy (l:List Sess) (id seq:Int) (r:Rep):(jN l id seq r).1.length≤l.length:=by
 unfold jN
 repeat' split
 all_goals simp
theorem aKg {s:State} (h:Sml s) (c:Call):Sml (fQ s c).1:=by
 unfold fQ
 split
 ·exact h
 ·rename_i hr
  have hr:bZ s=true:=by simpa using hr
  split
  ·exact h
  ·split
   ·unfold gG
    split
    ·exact h
    ·split
     ·exact h
     ·obtain ⟨_,_,r3,_⟩:=rE hr
      refine ⟨h.st,h.ss,h.sp,h.sb,?_,h.sq⟩
      show (nF s.sess s.next).1.length≤1000
      unfold nF
      repeat' split
      all_goals first | (simp;done) | (refine Nat.le_trans (oN _ _ _) ?_;omega)
   ·split
    ·exact h
    ·split
     ·exact h
     ·have hd:=aXl h hr c.cmd
      unfold gZ
      split
      ·exact ⟨hd.st,hd.ss,hd.sp,hd.sb,by have:=aNy (sZ s c.cmd).1.sess c.session c.seq (sZ s c.cmd).2;have:=hd.se;show (jN _ _ _ _).1.length≤1000;omega,hd.sq⟩
      ·exact hd
def pP (c:Call):Call:={ c with cmd:={ c.cmd with lines:=c.cmd.lines.take 15 } }
def rF (l:List Call) (n:Nat):List Call:=(l.take n).map pP
def bFf:List V:=[.int .i64 0,.int .i64 0,.int .i64 0,.str [],.int .i64 0,.str [],.int .i64 0,.int .i64 0,.int .i64 0,.int .i64 0,.int .i64 0,.int .i64 0,.int .i64 0,.nils,.str [],.int .i64 0,.int .i64 0]
def rG (st:State×List Rep) (c:Call):State×List Rep:=((fQ st.1 c).1,st.2++[(fQ st.1 c).2])
def playM (s:State) (l:List Call):State×List Rep:=l.foldl rG (s,[])
def aLz (st:State×List Rep) (c:Call):(State×List Rep)⊕(State×List Rep):=.inr (rG st c)
theorem aDv:∀ (l:List Call) (st:State×List Rep),aO aLz id l st=l.foldl rG st
 | [],st=>rfl
 | c::l,st=>by simp only [aO,aLz,List.foldl_cons];exact aDv l _
theorem aQb (l:List Call) (n:Nat):(rF l n).length≤n:=by simp only [rF,List.length_map,List.length_take];omega
end Go.Proofs.YtoaibmbldmckaaaGreat
end
section
namespace Go.AM
def rH {α:Type} (a:α):Option (List α)→Option (List α)
 | some l=>some (a::l)
 | none=>none
def wL:List V→Nat→Option (List V)
 | _,0=>some []
 | [],_+1=>none
 | a::l,n+1=>rH a (wL l n)
def rI:List V→Nat→List V→Option (List V)
 | cs,0,[]=>some cs
 | [],0,_::_=>none
 | _::cs,0,x::xs=>rH x (rI cs 0 xs)
 | [],_+1,_=>none
 | c::cs,j+1,xs=>rH c (rI cs j xs)
def oO:List V→Nat→Bool
 | [],0=>true
 | _::l,n+1=>oO l n
 | _,_=>false
def aGh {α:Type}:List α→Nat→α→Option (List α)
 | [],_,_=>none
 | _::l,0,x=>some (x::l)
 | a::l,i+1,x=>rH a (aGh l i x)
theorem aI6:∀ (l:List V) (n:Nat),wL l n=if n≤l.length then some (l.take n) else none
 | l,0=>by cases l<;>simp [wL]
 | [],n+1=>by simp [wL]
 | a::l,n+1=>by
  simp only [wL,aI6 l n,List.length_cons,Nat.add_le_add_iff_right,List.take_succ_cons]
  split<;>rfl
theorem wM:∀ (cs:List V) (j:Nat) (xs:List V),rI cs j xs=if j+xs.length≤cs.length then some (splice cs j xs) else none
 | cs,0,[]=>by cases cs<;>simp [rI,splice]
 | [],0,x::xs=>by simp [rI]
 | c::cs,0,x::xs=>by
  have h:=wM cs 0 xs
  simp only [rI,h,List.length_cons,splice,List.take_zero,List.nil_append,Nat.zero_add]
  by_cases c1:xs.length≤cs.length
  ·rw [if_pos c1,if_pos (by omega)];simp [rH]
  ·rw [if_neg c1,if_neg (by omega)];rfl
 | [],j+1,xs=>by simp [rI]
 | c::cs,j+1,xs=>by
  have h:=wM cs j xs
  simp only [rI,h,List.length_cons,splice]
  by_cases c1:j+xs.length≤cs.length
  ·rw [if_pos c1,if_pos (by omega)]
   simp only [rH,List.take_succ_cons,List.cons_append,show j+1+xs.length=(j+xs.length)+1 by omega,List.drop_succ_cons]
  ·rw [if_neg c1,if_neg (by omega)];rfl
theorem wN:∀ (l:List V) (n:Nat),oO l n=decide (l.length=n)
 | [],0=>rfl
 | [],n+1=>by simp [oO]
 | a::l,0=>by simp [oO]
 | a::l,n+1=>by simp [oO,wN l n]
theorem aM0 {α:Type}:∀ (l:List α) (i:Nat) (x:α),aGh l i x=if i<l.length then some (l.set i x) else none
 | [],i,x=>by simp [aGh]
 | a::l,0,x=>by simp [aGh]
 | a::l,i+1,x=>by
  simp only [aGh,aM0 l i x,List.length_cons,Nat.add_lt_add_iff_right,List.set_cons_succ]
  split<;>rfl
theorem pt2 (n:Nat) (cs:List V) (j:Nat):gN (some (n+1)) cs j=(match wL (cs.drop j) (n+1) with
  | some l=>.ok (.agg l)
  | none=>.error "part"):=by
 simp only [gN,aI6,List.length_drop]
 by_cases c:j+(n+1)≤cs.length
 ·rw [if_pos c,if_pos (by omega)]
 ·rw [if_neg c,if_neg (by omega)]
theorem mO (n a ver i j:Nat) (x:V) (S:St):aV n (.ptr a ver i j) x S=(match aI S a ver with
  | .error e=>.error e
  | .ok (es,elems)=>match elems[i]? with
   | some cs=>(match oO x.cells n&&aN x.cells with
    | true=>(match rI cs j x.cells with
     | some cs'=>.ok ⟨S.next,S.heap.put a (.row ver es (elems.set i cs'))⟩
     | none=>.error "store: the size")
    | false=>.error "store: the size")
   | none=>.error "store"):=by
 simp only [aV,wM,wN]
 cases aI S a ver with
 | error e=>rfl
 | ok r=>
  obtain ⟨es,elems⟩:=r
  simp only
  cases elems[i]? with
  | none=>rfl
  | some cs=>
   simp only
   by_cases c1:x.cells.length=n
   ·cases c2:aN x.cells
    ·simp [c1]
    ·by_cases c3:j+x.cells.length≤cs.length
     ·rw [if_pos ⟨c1,rfl,c3⟩];simp [c1];simp [←c1,c3]
     ·rw [if_neg (fun h=>c3 h.2.2)];simp [c1];simp [←c1,c3]
   ·rw [if_neg (fun h=>c1 h.1)];simp [c1]
theorem bw0 (z:List V) (pl:List (Nat×Nat)):bM z pl []=.ok (.agg z):=rfl
theorem bw1 (z:List V) (pl:List (Nat×Nat)) (i:Nat) (v:V) (rest:List (Nat×V)):bM z pl ((i,v)::rest)=(match pl[i]? with
  | none=>.error "fill"
  | some (off,size)=>(match oO v.cells size&&aN v.cells with
   | true=>(match rI z off v.cells with
    | some z'=>bM z' pl rest
    | none=>.error "fill")
   | false=>.error "fill")):=by
 simp only [bM,qI]
 cases pl[i]? with
 | none=>rfl
 | some p=>
  obtain ⟨off,size⟩:=p
  simp only [wM,wN,cond_eq_ite]
  by_cases c1:v.cells.length=size
  ·cases c2:aN v.cells
   ·simp [c1]
   ·by_cases c3:off+v.cells.length≤z.length
    ·have h1:Nat.beq v.cells.length size=true:=by simpa using c1
     have h2:Nat.ble (off+v.cells.length) z.length=true:=Nat.ble_eq_true_of_le c3
     simp [h1,h2,c1]
     simp [←c1,c3]
    ·have h2:Nat.ble (off+v.cells.length) z.length=false:=by
      cases h:Nat.ble (off+v.cells.length) z.length with
      | false=>rfl
      | true=>exact absurd (Nat.le_of_ble_eq_true h) c3
     simp [h2,c1]
     simp [←c1,c3]
  ·have h1:Nat.beq v.cells.length size=false:=by
    cases h:Nat.beq v.cells.length size with
    | false=>rfl
    | true=>exact absurd (Nat.eq_of_beq_eq_true h) c1
   simp [h1,c1]
theorem lv1 (es:Nat) (elems:List (List V)) (i:Nat) (v:V) (rest:List (Nat×V)):sL es elems ((i,v)::rest)=(match oO v.cells es&&aN v.cells with
  | true=>(match aGh elems i v.cells with
   | some e=>sL es e rest
   | none=>.error "buildSlice")
  | false=>.error "buildSlice"):=by
 simp only [sL,aM0,wN,cond_eq_ite]
 by_cases c1:v.cells.length=es
 ·have h1:Nat.beq v.cells.length es=true:=by simpa using c1
  cases c2:aN v.cells
  ·simp [c1]
  ·by_cases c3:i<elems.length
   ·have h2:Nat.blt i elems.length=true:=by simpa using c3
    simp [h1,h2,c1,c3]
   ·have h2:Nat.blt i elems.length=false:=by
     cases h:Nat.blt i elems.length with
     | false=>rfl
     | true=>exact absurd (by simpa using h) c3
    simp [h2,c1,c3]
 ·have h1:Nat.beq v.cells.length es=false:=by
   cases h:Nat.beq v.cells.length es with
   | false=>rfl
   | true=>exact absurd (Nat.eq_of_beq_eq_true h) c1
  simp [h1,c1]
theorem aYg:(∀ {α:Type} (a:α) (l:List α),rH a (some l)=some (a::l))∧(∀ l:List V,wL l 0=some [])∧(∀ (a:V) (l:List V) (n:Nat),wL (a::l) (n+1)=rH a (wL l n)) ∧
  (∀ cs:List V,rI cs 0 []=some cs)∧(∀ (c x:V) (cs xs:List V),rI (c::cs) 0 (x::xs)=rH x (rI cs 0 xs))∧(∀ (c:V) (cs:List V) (j:Nat) (xs:List V),rI (c::cs) (j+1) xs=rH c (rI cs j xs)) ∧
  oO [] 0=true∧(∀ (a:V) (l:List V) (n:Nat),oO (a::l) (n+1)=oO l n)∧(∀ {α:Type} (a:α) (l:List α) (x:α),aGh (a::l) 0 x=some (x::l))∧(∀ {α:Type} (a:α) (l:List α) (i:Nat) (x:α),aGh (a::l) (i+1) x=rH a (aGh l i x)) ∧
  type_of% pt2∧(∀ (n a j:Nat) (x:V) (S:St),type_of% (mO n a 0 0 j x S))∧type_of% bw0∧type_of% bw1∧type_of% lv1∧(∀ (es:Nat) (l:List (List V)),sL es l []=.ok l):=
 ⟨fun _ _=>rfl,fun l=>by cases l<;>rfl,fun _ _ _=>rfl,fun cs=>by cases cs<;>rfl,fun _ _ _ _=>rfl,fun _ _ _ _=>by simp only [rI],rfl,fun _ _ _=>rfl,fun _ _ _=>rfl,fun _ _ _ _=>rfl,pt2,fun n a j x S=>mO n a 0 0 j x S,bw0,bw1,lv1,fun _ _=>rfl⟩
section
section
variable {P:Program}
theorem aXm (b:Bool) (x y:Prop):aE (.bool b) x y=if b=true then x else y:=by cases b<;>rfl
theorem ldP (k:Option Nat) (a ver i j:Nat) (S:St):bB k (.ptr a ver i j) S=(match aI S a ver with
  | .error e=>.error e
  | .ok (_,elems)=>match elems[i]? with
   | some cs=>gN k cs j
   | none=>.error "load"):=rfl
theorem ptN (cs:List V) (j:Nat):gN none cs j=(match cs[j]? with
  | some v=>.ok v
  | none=>.error "part"):=rfl
theorem grS (n:Nat) (h:Tr Blk) (a ver es:Nat) (el:List (List V)):aI ⟨n,h.put a (.row ver es el)⟩ a ver=.ok (es,el):=aS ..
theorem iV {c a:Nat} (hc:c≠a) (n:Nat) (h:Tr Blk) (ver:Nat) (b:Blk):aI ⟨n,h.put a b⟩ c ver=aI ⟨n,h⟩ c ver:=dA n n h a c ver b hc
theorem nb0 (S:St) (b:Blk):aJ none S b=.ok (S.next,⟨S.next+1,S.heap.put S.next b⟩):=fL S b
theorem nb1 (k:Nat) (S:St) (b:Blk):aJ (some k) S b=.ok (k,⟨S.next,S.heap.put k b⟩):=lQ k S b
theorem stP (n a ver i j:Nat) (x:V) (S:St):aV n (.ptr a ver i j) x S=(match aI S a ver with
  | .error e=>.error e
  | .ok (es,elems)=>match elems[i]? with
   | some cs=>if x.cells.length=n∧aN x.cells=true∧j+x.cells.length≤cs.length then .ok ⟨S.next,S.heap.put a (.row ver es (elems.set i (splice cs j x.cells)))⟩ else .error "store: the size"
   | none=>.error "store"):=rfl
theorem ixI {α:Type} {l:List α} {enc:α→List V} {i:Nat} {a:α} {n:Nat} (hi:l[i]?=some a) (hn:(enc a).length=n) (k:IntKind):cV n (.imm (l.map enc)) (.int k (i:Int))=.ok (.iptr (enc a) 0):=by
 have hil:=(List.getElem?_eq_some_iff.1 hi).1
 have hx:(l.map enc)[i]?=some (enc a):=by rw [List.getElem?_map,hi];rfl
 simp only [cV,List.length_map,kS hil,hx]
 simp only [hn,if_true]
theorem okI {α:Type} (a b:α):((Except.ok a:R α)=.ok b)=(a=b):=by simp
end
theorem kit:(∀ {α:Type} (a:α) (K:α→Prop),wR (.ok a) K=K a)∧(∀ {α:Type} (a:α) (K:α→Prop),wO (some a) K=K a)∧(∀ x:Prop,bR true x=x)∧(∀ (b:Bool) (x y:Prop),aE (.bool b) x y=if b=true then x else y) ∧
  (∀ (v:V) (r:List V) (K:V→List V→Prop),eB (v::r) K=K v r)∧(∀ (vs:List V) (i:Nat) (K:V→Prop),bF (.tup vs) i K=wO vs[i]? K)∧(∀ (a b c d:Nat) (x:Prop),gI (.ptr a b c d) x=x)∧(∀ (a:List V) (b:Nat) (x:Prop),gI (.iptr a b) x=x) ∧
  (∀ b:Bool,iU .not (.bool b)=.ok (.bool !b))∧(∀ v:V,dP v v=true):=
 ⟨fun _ _=>rfl,fun _ _=>rfl,fun _=>rfl,aXm,fun _ _ _=>rfl,fun _ _ _=>rfl,fun _ _ _ _ _=>rfl,fun _ _ _=>rfl,fun _=>rfl,xN⟩
theorem bFh (P:Program):(∀ (t:TypeId) (k:IntKind) (a b:Int),aG P .add t (.int k a) (.int k b)=.ok (.int k (wr k (a+b))))∧(∀ (t:TypeId) (k:IntKind) (a b:Int),aG P .sub t (.int k a) (.int k b)=.ok (.int k (wr k (a - b)))) ∧
  (∀ (t:TypeId) (k:IntKind) (a b:Int),aG P .mul t (.int k a) (.int k b)=.ok (.int k (wr k (a*b))))∧(∀ (t:TypeId) (k:IntKind) (a b:Int),aG P .lss t (.int k a) (.int k b)=.ok (.bool (decide (a<b)))) ∧
  (∀ (t:TypeId) (k:IntKind) (a b:Int),aG P .leq t (.int k a) (.int k b)=.ok (.bool (decide (a≤b))))∧(∀ (t:TypeId) (k:IntKind) (a b:Int),aG P .gtr t (.int k a) (.int k b)=.ok (.bool (decide (b<a)))) ∧
  (∀ (t:TypeId) (k:IntKind) (a b:Int),aG P .geq t (.int k a) (.int k b)=.ok (.bool (decide (b≤a))))∧(∀ (t:TypeId) (k:IntKind) (a b:Int),aG P .eql t (.int k a) (.int k b)=.ok (.bool (decide (a=b)))) ∧
  (∀ (t:TypeId) (k:IntKind) (a b:Int),aG P .neq t (.int k a) (.int k b)=.ok (.bool (!decide (a=b)))) ∧
  (∀ (t:TypeId) (j k:IntKind) (a b:Int),aL P t (.int j a) (.int k b)=true)∧(∀ (t:TypeId) (x y:List UInt8),aL P t (.str x) (.str y)=true)∧(∀ (t:TypeId) (x y:Bool),aL P t (.bool x) (.bool y)=true) ∧
  (∀ (t:TypeId) (x y:List UInt8),aG P .eql t (.str x) (.str y)=.ok (.bool (x == y)))∧(∀ (t:TypeId) (x y:List UInt8),aG P .neq t (.str x) (.str y)=.ok (.bool (!(x == y)))) ∧
  (∀ (t:TypeId) (x y:List UInt8),aG P .lss t (.str x) (.str y)=.ok (.bool (eZ x y)))∧(∀ (t:TypeId) (x y:List UInt8),aG P .geq t (.str x) (.str y)=.ok (.bool (!eZ x y))) ∧
  (∀ (t:TypeId) (k:IntKind) (a b:Int),b≠0→aG P .quo t (.int k a) (.int k b)=.ok (.int k (wr k (a.tdiv b))))∧(∀ (t:TypeId) (k:IntKind) (a b:Int),b≠0→aG P .rem t (.int k a) (.int k b)=.ok (.int k (a.tmod b))):=
 ⟨aS7 P,aS8 P,aS9 P,aSc P,aSd P,aSe P,aSf P,aSg P,aSh P,fun _ _ _ _ _=>rfl,fun _ _ _=>rfl,fun _ _ _=>rfl,aSi P,aSj P,aSk P,aSl P,fun _ _ _ _ h=>aSa P _ _ _ _ h,fun _ _ _ _ h=>aSb P _ _ _ _ h⟩
theorem bFi : (∀ (k : Option Nat) (a j : Nat) (S : St), bB k (.ptr a 0 0 j) S = (match aI S a 0 with
      | .error e => .error e
      | .ok (_, elems) => match elems[0]? with
        | some cs => gN k cs j
        | none => .error "load")) ∧ (∀ (k : Option Nat) (cs : List V) (j : Nat) (S : St), bB k (.iptr cs j) S = gN k cs j) ∧
    (∀ (cs : List V) (j : Nat), gN none cs j = (match cs[j]? with
      | some v => .ok v
      | none => .error "part")) ∧
    (∀ off a ver i j : Nat, advW off (.ptr a ver i j) = .ok (.ptr a ver i (j + off))) ∧ (∀ (off : Nat) (cs : List V) (j : Nat), advW off (.iptr cs j) = .ok (.iptr cs (j + off))) ∧
    (∀ (n : Nat) (h : Tr Blk) (a ver es : Nat) (el : List (List V)), aI ⟨n, h.put a (.row ver es el)⟩ a ver = .ok (es, el)) ∧ (∀ (S : St) (b : Blk), aJ none S b = .ok (S.next, ⟨S.next + 1, S.heap.put S.next b⟩)) ∧
    (∀ (k : Nat) (S : St) (b : Blk), aJ (some k) S b = .ok (k, ⟨S.next, S.heap.put k b⟩)) ∧ (∀ cs : List V, (V.agg cs).cells = cs) ∧ (∀ b : Bool, (V.bool b).cells = [.bool b]) ∧ (∀ (k : IntKind) (n : Int), (V.int k n).cells = [.int k n]) ∧
    (∀ s : List UInt8, (V.str s).cells = [.str s]) ∧ (∀ es : List (List V), (V.imm es).cells = [.imm es]) ∧ V.nils.cells = [.nils] ∧ (∀ a b c d : Nat, (V.ptr a b c d).cells = [.ptr a b c d]) ∧ (∀ a b c d e : Nat, (V.sl a b c d e).cells = [.sl a b c d e]) ∧
    (∀ (f : FuncId) (a b : List V), (V.func f a b).cells = [.func f a b]) ∧ aN [] = true ∧ (∀ (v : V) (l : List V), aN (v :: l) = (v.one && aN l)) ∧ (∀ b : Bool, (V.bool b).one = true) ∧ (∀ (k : IntKind) (n : Int), (V.int k n).one = true) ∧ (∀ s : List UInt8, (V.str s).one = true) ∧
    (∀ es : List (List V), (V.imm es).one = true) ∧ V.nils.one = true ∧ (∀ a b c d : Nat, (V.ptr a b c d).one = true) ∧ (∀ a b c d e : Nat, (V.sl a b c d e).one = true) ∧ (∀ (f : FuncId) (a b : List V), (V.func f a b).one = true) ∧
    (∀ es : List (List V), lenW (.imm es) = .ok (.int .i64 es.length)) ∧ lenW .nils = .ok (.int .i64 0) ∧ (∀ a b c d e : Nat, lenW (.sl a b c d e) = .ok (.int .i64 e)) ∧
    (∀ (S : St) (b : Bool), cC S (.bool b) = .ok (.bool b)) ∧ (∀ (S : St) (k : IntKind) (n : Int), cC S (.int k n) = .ok (.int k n)) ∧ (∀ (S : St) (s : List UInt8), cC S (.str s) = .ok (.str s)) ∧ (∀ (S : St) (es : List (List V)), cC S (.imm es) = .ok (.imm es)) ∧
    (∀ {α : Type} (a b : α), ((Except.ok a : R α) = .ok b) = (a = b)) :=
  ⟨fun _ _ _ _ => rfl, fun _ _ _ _ => rfl, fun _ _ => rfl, fun _ _ _ _ _ => rfl, fun _ _ _ => rfl, grS, nb0, nb1, fun _ => rfl, fun _ => rfl, fun _ _ => rfl, fun _ => rfl, fun _ => rfl, rfl, fun _ _ _ _ => rfl, fun _ _ _ _ _ => rfl, fun _ _ _ => rfl, rfl, fun _ _ => rfl,
    fun _ => rfl, fun _ _ => rfl, fun _ => rfl, fun _ => rfl, rfl, fun _ _ _ _ => rfl, fun _ _ _ _ _ => rfl, fun _ _ _ => rfl, fun _ => rfl, rfl, fun _ _ _ _ _ => rfl, fun _ _ => rfl, fun _ _ _ => rfl, fun _ _ => rfl, fun _ _ => rfl, okI⟩
end
end Go.AM
end
section
namespace Go.Proofs.YtoaibmbldmckaaaGreat
open Go.AM Tryz
theorem fx : (∀ (s x : V) (fr : Option Nat) (S : St), aW prog 102 s x fr S = dL 23 224 s x fr S) ∧ (∀ (s x : V) (fr : Option Nat) (S : St), aW prog 22 s x fr S = dL 1 1 s x fr S) ∧ (∀ (s x : V) (fr : Option Nat) (S : St), aW prog 24 s x fr S = dL 5 48 s x fr S) ∧ (∀ (s x : V) (fr : Option Nat) (S : St), aW prog 25 s x fr S = dL 4 40 s x fr S) ∧ (∀ (s x : V) (fr : Option Nat) (S : St), aW prog 26 s x fr S = dL 12 128 s x fr S) ∧ (∀ (s x : V) (fr : Option Nat) (S : St), aW prog 27 s x fr S = dL 2 24 s x fr S) ∧ (∀ (s x : V) (fr : Option Nat) (S : St), aW prog 28 s x fr S = dL 5 40 s x fr S) ∧ (∀ (s x : V) (fr : Option Nat) (S : St), aW prog 44 s x fr S = dL 17 176 s x fr S) ∧ (∀ (s x : V) (fr : Option Nat) (S : St), aW prog 55 s x fr S = dL 4 48 s x fr S) ∧ (∀ (s x : V) (fr : Option Nat) (S : St), aW prog 62 s x fr S = dL 3 24 s x fr S) ∧ (∀ (s x : V) (fr : Option Nat) (S : St), aW prog 71 s x fr S = dL 4 40 s x fr S) ∧ (∀ (s x : V) (fr : Option Nat) (S : St), aW prog 80 s x fr S = dL 4 40 s x fr S) ∧ (∀ (s x : V) (fr : Option Nat) (S : St), aW prog 96 s x fr S = dL 1 8 s x fr S) ∧ (∀ (s x : V) (fr : Option Nat) (S : St), aW prog 97 s x fr S = dL 23 224 s x fr S) ∧ (∀ (parts : List (Nat × V)), aQ prog 126 parts = bM [.str [],.int .i64 0,.int .i64 0,.bool false] [(0, 1), (1, 1), (2, 1), (3, 1)] parts) ∧ (∀ (parts : List (Nat × V)), aQ prog 132 parts = bM [.int .i64 0,.int .i64 0,.int .i64 0,.int .i64 0,.int .i64 0] [(0, 1), (1, 1), (2, 3)] parts) ∧ (∀ (parts : List (Nat × V)), aQ prog 142 parts = bM [.nils,.int .i64 0,.int .i64 0] [(0, 1), (1, 1), (2, 1)] parts) ∧ (∀ (parts : List (Nat × V)), aQ prog 145 parts = bM [.str [],.int .i64 0,.int .i64 0,.int .i64 0] [(0, 1), (1, 1), (2, 1), (3, 1)] parts) ∧ (∀ (parts : List (Nat × V)), aQ prog 160 parts = bM [.nils] [(0, 1)] parts) ∧ (∀ (parts : List (Nat × V)), aQ prog 201 parts = bM [.str [],.str [],.int .i64 0,.int .i64 0] [(0, 1), (1, 1), (2, 1), (3, 1)] parts) ∧ (∀ (parts : List (Nat × V)), aQ prog 207 parts = bM [.int .i64 0,.int .i64 0,.int .i64 0,.str [],.int .i64 0,.str [],.int .i64 0,.int .i64 0,.int .i64 0,.int .i64 0,.int .i64 0,.int .i64 0,.int .i64 0,.nils,.str [],.int .i64 0,.int .i64 0,.int .i64 0,.int .i64 0,.int .i64 0,.int .i64 0,.int .i64 0,.int .i64 0] [(0, 17), (17, 1), (18, 1), (19, 1), (20, 3)] parts) ∧ (∀ (parts : List (Nat × V)), aQ prog 212 parts = bM [.nili] [(0, 1)] parts) ∧ (∀ (parts : List (Nat × V)), aQ prog 225 parts = bM [.nils,.int .i64 0,.int .i64 0] [(0, 1), (1, 1), (2, 1)] parts) ∧ (∀ (parts : List (Nat × V)), aQ prog 287 parts = bM [.nils,.bool false] [(0, 1), (1, 1)] parts) ∧ (∀ (parts : List (Nat × V)), aQ prog 30 parts = bM [.nils,.nils,.nils,.nils,.nils,.int .i64 0] [(0, 1), (1, 1), (2, 1), (3, 1), (4, 1), (5, 1)] parts) ∧ (∀ (parts : List (Nat × V)), aQ prog 346 parts = bM [.int .i64 0,.int .u64 0] [(0, 1), (1, 1)] parts) ∧ (∀ (parts : List (Nat × V)), aQ prog 48 parts = bM [.int .i64 0,.int .i64 0,.int .i64 0] [(0, 1), (1, 1), (2, 1)] parts) ∧ (∀ (parts : List (Nat × V)), aQ prog 52 parts = bM [.int .i64 0,.int .i64 0,.int .i64 0] [(0, 1), (1, 1), (2, 1)] parts) ∧ (∀ (parts : List (Nat × V)), aQ prog 54 parts = bM [.str [],.int .i64 0,.int .i64 0,.int .i64 0,.int .i64 0] [(0, 1), (1, 3), (4, 1)] parts) ∧ (∀ (parts : List (Nat × V)), aQ prog 57 parts = bM [.str [],.int .i64 0] [(0, 1), (1, 1)] parts) ∧ (∀ (parts : List (Nat × V)), aQ prog 59 parts = bM [.int .i64 0,.str [],.int .i64 0,.str [],.int .i64 0,.int .i64 0,.int .i64 0,.int .i64 0,.int .i64 0,.int .i64 0,.int .i64 0,.nils,.str [],.int .i64 0,.int .i64 0] [(0, 1), (1, 1), (2, 1), (3, 5), (8, 3), (11, 1), (12, 2), (14, 1)] parts) ∧ (∀ (parts : List (Nat × V)), aQ prog 61 parts = bM [.int .i64 0,.int .i64 0,.int .i64 0,.str [],.int .i64 0,.str [],.int .i64 0,.int .i64 0,.int .i64 0,.int .i64 0,.int .i64 0,.int .i64 0,.int .i64 0,.nils,.str [],.int .i64 0,.int .i64 0] [(0, 1), (1, 1), (2, 15)] parts) ∧ (∀ (parts : List (Nat × V)), aQ prog 76 parts = bM [.str [],.int .i64 0,.int .i64 0,.int .i64 0] [(0, 1), (1, 1), (2, 1), (3, 1)] parts) ∧ (∀ (parts : List (Nat × V)), aQ prog 77 parts = bM [.str [],.int .i64 0,.int .i64 0,.int .i64 0] [(0, 1), (1, 1), (2, 1), (3, 1)] parts) ∧ (∀ (parts : List (Nat × V)), aQ prog 82 parts = bM [.int .i64 0,.int .i64 0,.int .i64 0,.nils] [(0, 1), (1, 1), (2, 1), (3, 1)] parts) ∧ (∀ (parts : List (Nat × V)), aQ prog 84 parts = bM [.str [],.int .i64 0,.int .i64 0,.int .i64 0,.int .i64 0,.int .i64 0,.int .i64 0,.int .i64 0,.nils,.str [],.int .i64 0,.bool false] [(0, 2), (2, 3), (5, 4), (9, 2), (11, 1)] parts) ∧ (∀ (parts : List (Nat × V)), aQ prog 90 parts = bM [.str [],.int .i64 0] [(0, 1), (1, 1)] parts) ∧ (∀ (parts : List (Nat × V)), aQ prog 99 parts = bM [.int .i64 0,.int .i64 0,.int .i64 0,.str [],.int .i64 0,.str [],.int .i64 0,.int .i64 0,.int .i64 0,.int .i64 0,.int .i64 0,.int .i64 0,.int .i64 0,.nils,.str [],.int .i64 0,.int .i64 0,.int .i64 0,.int .i64 0,.int .i64 0,.int .i64 0,.int .i64 0,.int .i64 0] [(0, 17), (17, 1), (18, 1), (19, 1), (20, 3)] parts) ∧ (∀ (len : Nat) (parts : List (Nat × V)) (fr : Option Nat) (S : St), aK prog 102 len parts fr S = aR 23 [.int .i64 0,.int .i64 0,.int .i64 0,.str [],.int .i64 0,.str [],.int .i64 0,.int .i64 0,.int .i64 0,.int .i64 0,.int .i64 0,.int .i64 0,.int .i64 0,.nils,.str [],.int .i64 0,.int .i64 0,.int .i64 0,.int .i64 0,.int .i64 0,.int .i64 0,.int .i64 0,.int .i64 0] len parts fr S) ∧ (∀ (len : Nat) (parts : List (Nat × V)) (fr : Option Nat) (S : St), aK prog 22 len parts fr S = aR 1 [.int .u8 0] len parts fr S) ∧ (∀ (len : Nat) (parts : List (Nat × V)) (fr : Option Nat) (S : St), aK prog 24 len parts fr S = aR 5 [.str [],.int .i64 0,.int .i64 0,.int .i64 0,.int .i64 0] len parts fr S) ∧ (∀ (len : Nat) (parts : List (Nat × V)) (fr : Option Nat) (S : St), aK prog 25 len parts fr S = aR 4 [.str [],.int .i64 0,.int .i64 0,.bool false] len parts fr S) ∧ (∀ (len : Nat) (parts : List (Nat × V)) (fr : Option Nat) (S : St), aK prog 26 len parts fr S = aR 12 [.str [],.int .i64 0,.int .i64 0,.int .i64 0,.int .i64 0,.int .i64 0,.int .i64 0,.int .i64 0,.nils,.str [],.int .i64 0,.bool false] len parts fr S) ∧ (∀ (len : Nat) (parts : List (Nat × V)) (fr : Option Nat) (S : St), aK prog 27 len parts fr S = aR 2 [.str [],.int .i64 0] len parts fr S) ∧ (∀ (len : Nat) (parts : List (Nat × V)) (fr : Option Nat) (S : St), aK prog 28 len parts fr S = aR 5 [.int .i64 0,.int .i64 0,.int .i64 0,.int .i64 0,.int .i64 0] len parts fr S) ∧ (∀ (len : Nat) (parts : List (Nat × V)) (fr : Option Nat) (S : St), aK prog 361 len parts fr S = aR 1 [.nilp] len parts fr S) ∧ (∀ (len : Nat) (parts : List (Nat × V)) (fr : Option Nat) (S : St), aK prog 364 len parts fr S = aR 1 [.str []] len parts fr S) ∧ (∀ (len : Nat) (parts : List (Nat × V)) (fr : Option Nat) (S : St), aK prog 44 len parts fr S = aR 17 [.int .i64 0,.int .i64 0,.int .i64 0,.str [],.int .i64 0,.str [],.int .i64 0,.int .i64 0,.int .i64 0,.int .i64 0,.int .i64 0,.int .i64 0,.int .i64 0,.nils,.str [],.int .i64 0,.int .i64 0] len parts fr S) ∧ (∀ (len : Nat) (parts : List (Nat × V)) (fr : Option Nat) (S : St), aK prog 55 len parts fr S = aR 4 [.str [],.str [],.int .i64 0,.int .i64 0] len parts fr S) ∧ (∀ (len : Nat) (parts : List (Nat × V)) (fr : Option Nat) (S : St), aK prog 62 len parts fr S = aR 3 [.int .i64 0,.int .i64 0,.int .i64 0] len parts fr S) ∧ (∀ (len : Nat) (parts : List (Nat × V)) (fr : Option Nat) (S : St), aK prog 68 len parts fr S = aR 4 [.str [],.int .i64 0,.int .i64 0,.int .i64 0] len parts fr S) ∧ (∀ (len : Nat) (parts : List (Nat × V)) (fr : Option Nat) (S : St), aK prog 71 len parts fr S = aR 4 [.str [],.int .i64 0,.int .i64 0,.int .i64 0] len parts fr S) ∧ (∀ (len : Nat) (parts : List (Nat × V)) (fr : Option Nat) (S : St), aK prog 80 len parts fr S = aR 4 [.str [],.int .i64 0,.int .i64 0,.int .i64 0] len parts fr S) ∧ (∀ (len : Nat) (parts : List (Nat × V)) (fr : Option Nat) (S : St), aK prog 96 len parts fr S = aR 1 [.int .i64 0] len parts fr S) ∧ (∀ (len : Nat) (parts : List (Nat × V)) (fr : Option Nat) (S : St), aK prog 97 len parts fr S = aR 23 [.int .i64 0,.int .i64 0,.int .i64 0,.str [],.int .i64 0,.str [],.int .i64 0,.int .i64 0,.int .i64 0,.int .i64 0,.int .i64 0,.int .i64 0,.int .i64 0,.nils,.str [],.int .i64 0,.int .i64 0,.int .i64 0,.int .i64 0,.int .i64 0,.int .i64 0,.int .i64 0,.int .i64 0] len parts fr S) ∧ (∀ (j : IntKind) (n : Int) (fr : Option Nat) (S : St), bG prog 229 3 (.int j n) fr S = .ok (.int .i64 (wr .i64 n), S)) ∧ (∀ (j : IntKind) (n : Int) (fr : Option Nat) (S : St), bG prog 229 5 (.int j n) fr S = .ok (.int .u8 (wr .u8 n), S)) ∧ (∀ (j : IntKind) (n : Int) (fr : Option Nat) (S : St), bG prog 3 229 (.int j n) fr S = .ok (.int .u64 (wr .u64 n), S)) ∧ (∀ (j : IntKind) (n : Int) (fr : Option Nat) (S : St), bG prog 3 231 (.int j n) fr S = .ok (.int .u64 (wr .u64 n), S)) ∧ (∀ (j : IntKind) (n : Int) (fr : Option Nat) (S : St), bG prog 5 229 (.int j n) fr S = .ok (.int .u64 (wr .u64 n), S)) ∧ (∀ (p : V), aA prog 126 p 0 = advW 0 p) ∧ (∀ (p : V), aA prog 126 p 1 = advW 1 p) ∧ (∀ (p : V), aA prog 126 p 2 = advW 2 p) ∧ (∀ (p : V), aA prog 126 p 3 = advW 3 p) ∧ (∀ (p : V), aA prog 132 p 0 = advW 0 p) ∧ (∀ (p : V), aA prog 132 p 1 = advW 1 p) ∧ (∀ (p : V), aA prog 132 p 2 = advW 2 p) ∧ (∀ (p : V), aA prog 142 p 0 = advW 0 p) ∧ (∀ (p : V), aA prog 142 p 1 = advW 1 p) ∧ (∀ (p : V), aA prog 142 p 2 = advW 2 p) ∧ (∀ (p : V), aA prog 145 p 0 = advW 0 p) ∧ (∀ (p : V), aA prog 145 p 1 = advW 1 p) ∧ (∀ (p : V), aA prog 145 p 2 = advW 2 p) ∧ (∀ (p : V), aA prog 145 p 3 = advW 3 p) ∧ (∀ (p : V), aA prog 160 p 0 = advW 0 p) ∧ (∀ (p : V), aA prog 201 p 0 = advW 0 p) ∧ (∀ (p : V), aA prog 201 p 1 = advW 1 p) ∧ (∀ (p : V), aA prog 201 p 2 = advW 2 p) ∧ (∀ (p : V), aA prog 201 p 3 = advW 3 p) ∧ (∀ (p : V), aA prog 207 p 0 = advW 0 p) ∧ (∀ (p : V), aA prog 207 p 1 = advW 17 p) ∧ (∀ (p : V), aA prog 207 p 2 = advW 18 p) ∧ (∀ (p : V), aA prog 207 p 3 = advW 19 p) ∧ (∀ (p : V), aA prog 207 p 4 = advW 20 p) ∧ (∀ (p : V), aA prog 220 p 1 = advW 1 p) ∧ (∀ (p : V), aA prog 220 p 2 = advW 2 p) ∧ (∀ (p : V), aA prog 225 p 0 = advW 0 p) ∧ (∀ (p : V), aA prog 225 p 1 = advW 1 p) ∧ (∀ (p : V), aA prog 225 p 2 = advW 2 p) ∧ (∀ (p : V), aA prog 287 p 0 = advW 0 p) ∧ (∀ (p : V), aA prog 287 p 1 = advW 1 p) ∧ (∀ (p : V), aA prog 30 p 0 = advW 0 p) ∧ (∀ (p : V), aA prog 30 p 1 = advW 1 p) ∧ (∀ (p : V), aA prog 30 p 2 = advW 2 p) ∧ (∀ (p : V), aA prog 30 p 3 = advW 3 p) ∧ (∀ (p : V), aA prog 30 p 4 = advW 4 p) ∧ (∀ (p : V), aA prog 30 p 5 = advW 5 p) ∧ (∀ (p : V), aA prog 346 p 0 = advW 0 p) ∧ (∀ (p : V), aA prog 346 p 1 = advW 1 p) ∧ (∀ (p : V), aA prog 48 p 0 = advW 0 p) ∧ (∀ (p : V), aA prog 48 p 1 = advW 1 p) ∧ (∀ (p : V), aA prog 48 p 2 = advW 2 p) ∧ (∀ (p : V), aA prog 52 p 0 = advW 0 p) ∧ (∀ (p : V), aA prog 52 p 1 = advW 1 p) ∧ (∀ (p : V), aA prog 52 p 2 = advW 2 p) ∧ (∀ (p : V), aA prog 54 p 0 = advW 0 p) ∧ (∀ (p : V), aA prog 54 p 1 = advW 1 p) ∧ (∀ (p : V), aA prog 54 p 2 = advW 4 p) ∧ (∀ (p : V), aA prog 57 p 0 = advW 0 p) ∧ (∀ (p : V), aA prog 57 p 1 = advW 1 p) ∧ (∀ (p : V), aA prog 59 p 0 = advW 0 p) ∧ (∀ (p : V), aA prog 59 p 1 = advW 1 p) ∧ (∀ (p : V), aA prog 59 p 2 = advW 2 p) ∧ (∀ (p : V), aA prog 59 p 3 = advW 3 p) ∧ (∀ (p : V), aA prog 59 p 4 = advW 8 p) ∧ (∀ (p : V), aA prog 59 p 5 = advW 11 p) ∧ (∀ (p : V), aA prog 59 p 6 = advW 12 p) ∧ (∀ (p : V), aA prog 59 p 7 = advW 14 p) ∧ (∀ (p : V), aA prog 61 p 0 = advW 0 p) ∧ (∀ (p : V), aA prog 61 p 1 = advW 1 p) ∧ (∀ (p : V), aA prog 61 p 2 = advW 2 p) ∧ (∀ (p : V), aA prog 76 p 0 = advW 0 p) ∧ (∀ (p : V), aA prog 76 p 1 = advW 1 p) ∧ (∀ (p : V), aA prog 76 p 2 = advW 2 p) ∧ (∀ (p : V), aA prog 76 p 3 = advW 3 p) ∧ (∀ (p : V), aA prog 77 p 0 = advW 0 p) ∧ (∀ (p : V), aA prog 77 p 1 = advW 1 p) ∧ (∀ (p : V), aA prog 77 p 2 = advW 2 p) ∧ (∀ (p : V), aA prog 77 p 3 = advW 3 p) ∧ (∀ (p : V), aA prog 82 p 0 = advW 0 p) ∧ (∀ (p : V), aA prog 82 p 1 = advW 1 p) ∧ (∀ (p : V), aA prog 82 p 2 = advW 2 p) ∧ (∀ (p : V), aA prog 82 p 3 = advW 3 p) ∧ (∀ (p : V), aA prog 84 p 0 = advW 0 p) ∧ (∀ (p : V), aA prog 84 p 1 = advW 2 p) ∧ (∀ (p : V), aA prog 84 p 2 = advW 5 p) ∧ (∀ (p : V), aA prog 84 p 3 = advW 9 p) ∧ (∀ (p : V), aA prog 84 p 4 = advW 11 p) ∧ (∀ (p : V), aA prog 90 p 0 = advW 0 p) ∧ (∀ (p : V), aA prog 90 p 1 = advW 1 p) ∧ (∀ (p : V), aA prog 99 p 0 = advW 0 p) ∧ (∀ (p : V), aA prog 99 p 1 = advW 17 p) ∧ (∀ (p : V), aA prog 99 p 2 = advW 18 p) ∧ (∀ (p : V), aA prog 99 p 3 = advW 19 p) ∧ (∀ (p : V), aA prog 99 p 4 = advW 20 p) ∧ (∀ (x i : V), aC prog 102 x i = cV 23 x i) ∧ (∀ (x i : V), aC prog 114 x i = cV 3 x i) ∧ (∀ (x i : V), aC prog 22 x i = cV 1 x i) ∧ (∀ (x i : V), aC prog 24 x i = cV 5 x i) ∧ (∀ (x i : V), aC prog 25 x i = cV 4 x i) ∧ (∀ (x i : V), aC prog 26 x i = cV 12 x i) ∧ (∀ (x i : V), aC prog 27 x i = cV 2 x i) ∧ (∀ (x i : V), aC prog 28 x i = cV 5 x i) ∧ (∀ (x i : V), aC prog 361 x i = cV 1 x i) ∧ (∀ (x i : V), aC prog 364 x i = cV 1 x i) ∧ (∀ (x i : V), aC prog 44 x i = cV 17 x i) ∧ (∀ (x i : V), aC prog 55 x i = cV 4 x i) ∧ (∀ (x i : V), aC prog 62 x i = cV 3 x i) ∧ (∀ (x i : V), aC prog 68 x i = cV 4 x i) ∧ (∀ (x i : V), aC prog 71 x i = cV 4 x i) ∧ (∀ (x i : V), aC prog 80 x i = cV 4 x i) ∧ (∀ (x i : V), aC prog 96 x i = cV 1 x i) ∧ (∀ (x i : V), aC prog 97 x i = cV 23 x i) ∧ (∀ (p : V) (S : St), aB prog 126 p S = bB (some 4) p S) ∧ (∀ (p : V) (S : St), aB prog 132 p S = bB (some 5) p S) ∧ (∀ (p : V) (S : St), aB prog 145 p S = bB (some 4) p S) ∧ (∀ (p : V) (S : St), aB prog 2 p S = bB none p S) ∧ (∀ (p : V) (S : St), aB prog 201 p S = bB (some 4) p S) ∧ (∀ (p : V) (S : St), aB prog 212 p S = bB (some 1) p S) ∧ (∀ (p : V) (S : St), aB prog 22 p S = bB none p S) ∧ (∀ (p : V) (S : St), aB prog 220 p S = bB (some 3) p S) ∧ (∀ (p : V) (S : St), aB prog 229 p S = bB none p S) ∧ (∀ (p : V) (S : St), aB prog 232 p S = bB none p S) ∧ (∀ (p : V) (S : St), aB prog 24 p S = bB none p S) ∧ (∀ (p : V) (S : St), aB prog 25 p S = bB none p S) ∧ (∀ (p : V) (S : St), aB prog 26 p S = bB none p S) ∧ (∀ (p : V) (S : St), aB prog 27 p S = bB none p S) ∧ (∀ (p : V) (S : St), aB prog 28 p S = bB none p S) ∧ (∀ (p : V) (S : St), aB prog 3 p S = bB none p S) ∧ (∀ (p : V) (S : St), aB prog 30 p S = bB (some 6) p S) ∧ (∀ (p : V) (S : St), aB prog 31 p S = bB none p S) ∧ (∀ (p : V) (S : St), aB prog 346 p S = bB (some 2) p S) ∧ (∀ (p : V) (S : St), aB prog 349 p S = bB none p S) ∧ (∀ (p : V) (S : St), aB prog 4 p S = bB none p S) ∧ (∀ (p : V) (S : St), aB prog 48 p S = bB (some 3) p S) ∧ (∀ (p : V) (S : St), aB prog 5 p S = bB none p S) ∧ (∀ (p : V) (S : St), aB prog 52 p S = bB (some 3) p S) ∧ (∀ (p : V) (S : St), aB prog 54 p S = bB (some 5) p S) ∧ (∀ (p : V) (S : St), aB prog 55 p S = bB none p S) ∧ (∀ (p : V) (S : St), aB prog 57 p S = bB (some 2) p S) ∧ (∀ (p : V) (S : St), aB prog 59 p S = bB (some 15) p S) ∧ (∀ (p : V) (S : St), aB prog 61 p S = bB (some 17) p S) ∧ (∀ (p : V) (S : St), aB prog 76 p S = bB (some 4) p S) ∧ (∀ (p : V) (S : St), aB prog 80 p S = bB none p S) ∧ (∀ (p : V) (S : St), aB prog 82 p S = bB (some 4) p S) ∧ (∀ (p : V) (S : St), aB prog 84 p S = bB (some 12) p S) ∧ (∀ (p : V) (S : St), aB prog 9 p S = bB none p S) ∧ (∀ (p : V) (S : St), aB prog 90 p S = bB (some 2) p S) ∧ (∀ (p : V) (S : St), aB prog 99 p S = bB (some 23) p S) ∧ (∀ (x : V) (S : St), bH prog 102 x S = lenW x) ∧ (∀ (x : V) (S : St), bH prog 114 x S = lenW x) ∧ (∀ (x : V) (S : St), bH prog 22 x S = lenW x) ∧ (∀ (x : V) (S : St), bH prog 24 x S = lenW x) ∧ (∀ (x : V) (S : St), bH prog 25 x S = lenW x) ∧ (∀ (x : V) (S : St), bH prog 26 x S = lenW x) ∧ (∀ (x : V) (S : St), bH prog 27 x S = lenW x) ∧ (∀ (x : V) (S : St), bH prog 28 x S = lenW x) ∧ (∀ (x : V) (S : St), bH prog 361 x S = lenW x) ∧ (∀ (x : V) (S : St), bH prog 364 x S = lenW x) ∧ (∀ (x : V) (S : St), bH prog 44 x S = lenW x) ∧ (∀ (x : V) (S : St), bH prog 55 x S = lenW x) ∧ (∀ (x : V) (S : St), bH prog 62 x S = lenW x) ∧ (∀ (x : V) (S : St), bH prog 68 x S = lenW x) ∧ (∀ (x : V) (S : St), bH prog 71 x S = lenW x) ∧ (∀ (x : V) (S : St), bH prog 80 x S = lenW x) ∧ (∀ (s : List UInt8) (S : St), bH prog 9 (.str s) S = .ok (.int .i64 s.length)) ∧ (∀ (x : V) (S : St), bH prog 96 x S = lenW x) ∧ (∀ (x : V) (S : St), bH prog 97 x S = lenW x) ∧ (∀ (a ver off len : Nat) (lo hi : Option V), cL prog 22 (.sl a ver 1 off len) lo hi = (match cK len lo hi with
      | .ok (l, h) => .ok (.sl a ver 1 (off + l) (h - l))
      | .error e => .error e)) ∧ (∀ (a ver off len : Nat) (lo hi : Option V), cL prog 24 (.sl a ver 5 off len) lo hi = (match cK len lo hi with
      | .ok (l, h) => .ok (.sl a ver 5 (off + l) (h - l))
      | .error e => .error e)) ∧ (∀ (a ver off len : Nat) (lo hi : Option V), cL prog 25 (.sl a ver 4 off len) lo hi = (match cK len lo hi with
      | .ok (l, h) => .ok (.sl a ver 4 (off + l) (h - l))
      | .error e => .error e)) ∧ (∀ (a ver off len : Nat) (lo hi : Option V), cL prog 26 (.sl a ver 12 off len) lo hi = (match cK len lo hi with
      | .ok (l, h) => .ok (.sl a ver 12 (off + l) (h - l))
      | .error e => .error e)) ∧ (∀ (a ver off len : Nat) (lo hi : Option V), cL prog 27 (.sl a ver 2 off len) lo hi = (match cK len lo hi with
      | .ok (l, h) => .ok (.sl a ver 2 (off + l) (h - l))
      | .error e => .error e)) ∧ (∀ (a ver off len : Nat) (lo hi : Option V), cL prog 28 (.sl a ver 5 off len) lo hi = (match cK len lo hi with
      | .ok (l, h) => .ok (.sl a ver 5 (off + l) (h - l))
      | .error e => .error e)) ∧ (∀ (a ver off len : Nat) (lo hi : Option V), cL prog 55 (.sl a ver 4 off len) lo hi = (match cK len lo hi with
      | .ok (l, h) => .ok (.sl a ver 4 (off + l) (h - l))
      | .error e => .error e)) ∧ (∀ (a ver off len : Nat) (lo hi : Option V), cL prog 71 (.sl a ver 4 off len) lo hi = (match cK len lo hi with
      | .ok (l, h) => .ok (.sl a ver 4 (off + l) (h - l))
      | .error e => .error e)) ∧ (∀ (a ver off len : Nat) (lo hi : Option V), cL prog 80 (.sl a ver 4 off len) lo hi = (match cK len lo hi with
      | .ok (l, h) => .ok (.sl a ver 4 (off + l) (h - l))
      | .error e => .error e)) ∧ (∀ (a ver off len : Nat) (lo hi : Option V), cL prog 96 (.sl a ver 1 off len) lo hi = (match cK len lo hi with
      | .ok (l, h) => .ok (.sl a ver 1 (off + l) (h - l))
      | .error e => .error e)) ∧ (∀ (a ver off len : Nat) (lo hi : Option V), cL prog 97 (.sl a ver 23 off len) lo hi = (match cK len lo hi with
      | .ok (l, h) => .ok (.sl a ver 23 (off + l) (h - l))
      | .error e => .error e)) ∧ (∀ (p x : V) (S : St), aH prog 126 p x S = aV 4 p x S) ∧ (∀ (p x : V) (S : St), aH prog 132 p x S = aV 5 p x S) ∧ (∀ (p x : V) (S : St), aH prog 145 p x S = aV 4 p x S) ∧ (∀ (p x : V) (S : St), aH prog 201 p x S = aV 4 p x S) ∧ (∀ (p x : V) (S : St), aH prog 212 p x S = aV 1 p x S) ∧ (∀ (p x : V) (S : St), aH prog 22 p x S = aV 1 p x S) ∧ (∀ (p x : V) (S : St), aH prog 220 p x S = aV 3 p x S) ∧ (∀ (p x : V) (S : St), aH prog 232 p x S = aV 1 p x S) ∧ (∀ (p x : V) (S : St), aH prog 24 p x S = aV 1 p x S) ∧ (∀ (p x : V) (S : St), aH prog 25 p x S = aV 1 p x S) ∧ (∀ (p x : V) (S : St), aH prog 26 p x S = aV 1 p x S) ∧ (∀ (p x : V) (S : St), aH prog 27 p x S = aV 1 p x S) ∧ (∀ (p x : V) (S : St), aH prog 28 p x S = aV 1 p x S) ∧ (∀ (p x : V) (S : St), aH prog 3 p x S = aV 1 p x S) ∧ (∀ (p x : V) (S : St), aH prog 30 p x S = aV 6 p x S) ∧ (∀ (p x : V) (S : St), aH prog 31 p x S = aV 1 p x S) ∧ (∀ (p x : V) (S : St), aH prog 346 p x S = aV 2 p x S) ∧ (∀ (p x : V) (S : St), aH prog 4 p x S = aV 1 p x S) ∧ (∀ (p x : V) (S : St), aH prog 48 p x S = aV 3 p x S) ∧ (∀ (p x : V) (S : St), aH prog 5 p x S = aV 1 p x S) ∧ (∀ (p x : V) (S : St), aH prog 52 p x S = aV 3 p x S) ∧ (∀ (p x : V) (S : St), aH prog 54 p x S = aV 5 p x S) ∧ (∀ (p x : V) (S : St), aH prog 55 p x S = aV 1 p x S) ∧ (∀ (p x : V) (S : St), aH prog 57 p x S = aV 2 p x S) ∧ (∀ (p x : V) (S : St), aH prog 59 p x S = aV 15 p x S) ∧ (∀ (p x : V) (S : St), aH prog 61 p x S = aV 17 p x S) ∧ (∀ (p x : V) (S : St), aH prog 80 p x S = aV 1 p x S) ∧ (∀ (p x : V) (S : St), aH prog 82 p x S = aV 4 p x S) ∧ (∀ (p x : V) (S : St), aH prog 84 p x S = aV 12 p x S) ∧ (∀ (p x : V) (S : St), aH prog 9 p x S = aV 1 p x S) ∧ (∀ (p x : V) (S : St), aH prog 90 p x S = aV 2 p x S) ∧ (∀ (p x : V) (S : St), aH prog 99 p x S = aV 23 p x S) := ⟨aZu, bCj, bCk, bCl, bCm, bCn, bCo, bCp, bCq, bCr, bCs, bCt, bCu, bCv, bCw, bCx, bCy, bCz, bD0, bD1, bD2, bD3, bD4, bD5, bHs, bD6, bHt, bHu, bHv, bHw, bHx, bHy, bHz, bI0, bI1, bI2, bI3, bI4, bD7, bI5, bI6, bI7, bI8, bI9, bIa, bD8, bD9, bIb, bIc, bId, bIe, bIf, bIg, bIh, bIi, aWg, aWh, aWi, aWj, aWk, aWl, aWm, aWn, aWo, aWp, aWq, aWr, aWs, aWt, aWu, aWv, aWw, aWx, aWy, aWz, aX0, aX1, aX2, aX3, aX4, aX5, aX6, aX7, aX8, aX9, aXa, aXb, aXc, aXd, aXe, aXf, bA0, bA1, bA2, bA3, bA4, bA5, aXg, aXh, bA6, bA7, bA8, bA9, bAa, bAb, bAc, bAd, bAe, bAf, bAg, bAh, bAi, bAj, bAk, bAl, bAm, bAn, bAo, bAp, bAq, bAr, bAs, bAt, bAu, bAv, bAw, bAx, bAy, bAz, bB0, bB1, bB2, bB3, bB4, bB5, bB6, bB7, bB8, bB9, bBa, bBb, bBc, bBd, bBe, bBf, bDq, bDr, bIv, bIw, bIx, bIy, bIz, bJ0, bDs, bDt, bJ1, bJ2, bJ3, bJ4, bJ5, bJ6, bJ7, bJ8, bDu, bDv, bDw, ld2, bDx, bDy, bJa, bDz, bE0, bE1, bJb, bJc, bJd, bJe, bJf, ld3, bJh, bJi, bE2, bE3, ld4, bJj, ld5, bJk, bJl, bJm, bJn, bJo, bJp, bJq, bJr, bJs, bJt, ld9, bJu, bJv, bBg, bBh, bE4, bE5, bE6, bE7, bE8, bE9, bBi, bBj, bEa, bEb, bEc, bEd, bEe, bEf, bJw, bEg, bEh, bJx, bJy, bJz, bK0, bK1, bK2, bK3, bK4, bK5, bK6, bK7, bEk, bEl, bEm, bEn, bEo, bK8, bEp, bEq, bK9, bKa, bKb, bKc, bKd, st3, bKe, bKf, bEr, st4, bKg, st5, bKh, bKi, bKj, bKk, bKl, bKm, bKn, bKo, bKp, st9, bKq, bKr⟩
theorem ls:(∀ {α:Type} (a:α) (l:List α),(a::l)[0]?=some a)∧(∀ {α:Type} (a:α) (l:List α) (i:Nat),(a::l)[i+1]?=l[i]?)∧(∀ {α:Type} (i:Nat),([]:List α)[i]?=none)∧(∀ {α:Type} (a:α) (l:List α),(a::l).length=l.length+1)∧(∀ {α:Type},([]:List α).length=0) ∧
  (∀ {α:Type} (l:List α),l.drop 0=l)∧(∀ {α:Type} (a:α) (l:List α) (i:Nat),(a::l).drop (i+1)=l.drop i)∧(∀ {α:Type} (l:List α),l.take 0=[])∧(∀ {α:Type} (a:α) (l:List α) (i:Nat),(a::l).take (i+1)=a::l.take i)∧(∀ {α:Type} (i:Nat),([]:List α).take i=[])∧(∀ {α:Type} (i:Nat),([]:List α).drop i=[]) ∧
  (∀ {α:Type} (l:List α),[]++l=l)∧(∀ {α:Type} (a:α) (l m:List α),a::l++m=a::(l++m))∧(∀ {α:Type} (a b:α) (l:List α),(a::l).set 0 b=b::l)∧(∀ {α:Type} (a b:α) (l:List α) (i:Nat),(a::l).set (i+1) b=a::l.set i b) ∧
  (∀ b:Bool,(true&&b)=b)∧(∀ b:Bool,(b&&true)=b)∧(∀ b:Bool,(!!b)=b)∧(∀ {p q:Prop},(if true=true then p else q)=p)∧(∀ {p q:Prop},(if false=true then p else q)=q)∧(!true)=false∧(!false)=true∧(∀ {α:Type} (a b:α),(if True then a else b)=a)∧(∀ {α:Type} (a b:α),(if False then a else b)=b)∧(∀ n:Nat,0+n=n)∧(∀ n:Nat,n+0=n)∧(∀ {α:Type} (f:α→List V) (l:List α),(l.map f).length=l.length) ∧
  (∀ (p:Prop) [Decidable p],(decide p=true)=p)∧(∀ (p:Prop) [Decidable p],((!decide p)=true)=¬ p)∧(∀ p:Prop,(p∧True)=p)∧(∀ p:Prop,(True∧p)=p)∧(∀ n:Nat,(n≤n)=True)∧(∀ n:Nat,(0≤n)=True)∧(∀ (a:Nat),(a=a)=True):=
 ⟨fun _ _=>rfl,fun _ _ _=>rfl,fun _=>rfl,fun _ _=>rfl,rfl,fun _=>rfl,fun _ _ _=>rfl,fun _=>rfl,fun _ _ _=>rfl,fun _=>by simp,fun _=>by simp,fun _=>rfl,fun _ _ _=>rfl,fun _ _ _=>rfl,fun _ _ _ _=>rfl,Bool.true_and,Bool.and_true,Bool.not_not,by intros;rfl,by intros;rfl,rfl,rfl,fun _ _=>if_pos trivial,fun _ _=>if_neg id,Nat.zero_add,Nat.add_zero,fun _ _=>List.length_map ..,fun p _=>by simp,fun p _=>by simp,and_true,true_and,fun n=>by simp,fun n=>by simp,fun n=>by simp⟩
theorem gm (n:Nat) (S:St) (a v:Nat):aI ⟨n,S.heap⟩ a v=aI S a v:=rfl
theorem bFj {l:List Int} {i:Nat} {a:Int} (hi:l[i]?=some a) (k:IntKind):cV 1 (.imm (l.map hY)) (.int k (i:Int))=.ok (.iptr (hY a) 0):=ixI (enc:=hY) hi rfl k
theorem aGi {l:List Rate} {i:Nat} {a:Rate} (hi:l[i]?=some a) (k:IntKind):cV 5 (.imm (l.map Rate.enc)) (.int k (i:Int))=.ok (.iptr a.enc 0):=ixI (enc:=Rate.enc) hi rfl k
theorem zC {l:List Ser} {i:Nat} {a:Ser} (hi:l[i]?=some a) (k:IntKind):cV 4 (.imm (l.map Ser.enc)) (.int k (i:Int))=.ok (.iptr a.enc 0):=ixI (enc:=Ser.enc) hi rfl k
theorem aBv {l:List Sess} {i:Nat} {a:Sess} (hi:l[i]?=some a) (k:IntKind):cV 5 (.imm (l.map Sess.enc)) (.int k (i:Int))=.ok (.iptr a.enc 0):=ixI (enc:=Sess.enc) hi rfl k
theorem aBw {l:List Bal} {i:Nat} {a:Bal} (hi:l[i]?=some a) (k:IntKind):cV 2 (.imm (l.map Bal.enc)) (.int k (i:Int))=.ok (.iptr a.enc 0):=ixI (enc:=Bal.enc) hi rfl k
theorem uF {l:List Part} {i:Nat} {a:Part} (hi:l[i]?=some a) (k:IntKind):cV 4 (.imm (l.map Part.enc)) (.int k (i:Int))=.ok (.iptr a.enc 0):=ixI (enc:=Part.enc) hi rfl k
theorem bBm {l:List Line} {i:Nat} {a:Line} (hi:l[i]?=some a) (k:IntKind):cV 4 (.imm (l.map Line.enc)) (.int k (i:Int))=.ok (.iptr a.enc 0):=ixI (enc:=Line.enc) hi rfl k
theorem dI {α:Type} {l:List α} {i:Nat} {a:α} (h:l[i]?=some a):((i:Int)<(l.length:Int))=True:=by
 have:=(List.getElem?_eq_some_iff.1 h).1
 simp;exact this
theorem nU {i:Nat} (h:i<1000000000):wr .i64 ((i:Int)+1)=((i+1:Nat):Int):=by rw [qW (by omega) (by omega)];omega
theorem wrm {i:Nat} (h:i+1<1000000000):wr .i64 (((i+1:Nat):Int) - 1)=(i:Int):=by rw [qW (by omega) (by omega)];omega
theorem gt0 (i:Nat):((0:Int)<((i+1:Nat):Int))=True:=by simp
theorem aQc {n i a:Nat} (h:(List.range n)[i]?=some a):i<n∧a=i:=by
 have hl:i<n:=by simpa using (List.getElem?_eq_some_iff.1 h).1
 rw [List.getElem?_range hl] at h
 exact ⟨hl,(Option.some.inj h).symm⟩
theorem oo : (∀ (S : St) (v : V), cC S v = dQ mQ (qD (lE S 3) S) v) ∧ (∀ (σ : V → Go.AM.R V) (l : List V), dQ mQ σ (.tup l) = (match frzVs mQ σ l with
      | .ok cs => .ok (.tup cs)
      | .error e => .error e)) ∧ (∀ (σ : V → Go.AM.R V) (l : List V), dQ mQ σ (.agg l) = (match frzVs mQ σ l with
      | .ok cs => .ok (.agg cs)
      | .error e => .error e)) ∧ (∀ σ : V → Go.AM.R V, frzVs mQ σ [] = .ok []) ∧ (∀ (σ : V → Go.AM.R V) (v : V) (l : List V), frzVs mQ σ (v :: l) = (match dQ mQ σ v with
      | .ok v => (match frzVs mQ σ l with
        | .ok l => .ok (v :: l)
        | .error e => .error e)
      | .error e => .error e)) ∧ (∀ (σ : V → Go.AM.R V) (b : Bool), dQ mQ σ (.bool b) = .ok (.bool b)) ∧ (∀ (σ : V → Go.AM.R V) (k : IntKind) (n : Int), dQ mQ σ (.int k n) = .ok (.int k n)) ∧ (∀ (σ : V → Go.AM.R V) (s : List UInt8), dQ mQ σ (.str s) = .ok (.str s)) ∧
    (∀ (σ : V → Go.AM.R V) (es : List (List V)), dQ mQ σ (.imm es) = .ok (.imm es)) ∧ (∀ σ : V → Go.AM.R V, dQ mQ σ .nils = .ok (.imm [])) ∧ (∀ (σ : V → Go.AM.R V) (a b c d e : Nat), dQ mQ σ (.sl a b c d e) = σ (.sl a b c d e)) :=
  ⟨fun _ _ => rfl, fun σ l => by simp only [dQ] <;> rfl, fun σ l => by simp only [dQ] <;> rfl, fun _ => rfl, fun σ v l => by simp only [frzVs] <;> rfl, fun _ _ => rfl, fun _ _ _ => rfl, fun _ _ => rfl, fun _ _ => rfl, fun _ => rfl, fun _ _ _ _ _ _ => rfl⟩
theorem unK:(∀ (k:IntKind) (n:Int),iU .neg (.int k n)=.ok (.int k (wr k (0 - n))))∧(∀ n:Int,iU .xor (.int .u64 n)=.ok (.int .u64 (aNu n))):=⟨fun _ _=>rfl,fun _=>rfl⟩
theorem nk:(∀ n:Nat,(0=n+1)=False)∧(∀ n:Nat,(n+1=0)=False)∧(∀ n m:Nat,(n+1=m+1)=(n=m))∧(∀ {α:Type} {a b:α},(a≠b)=¬ a=b)∧(¬ False)=True:=⟨fun n=>by simp,fun n=>by simp,fun n m=>by simp,by intros;rfl,by simp⟩
theorem ex:(∀ (a_0:List UInt8) (a_1:Int) (a_2:Int) (a_3:Bool) (b_0:List UInt8) (b_1:Int) (b_2:Int) (b_3:Bool),mN prog 100 126 (.agg [.str a_0,.int .i64 a_1,.int .i64 a_2,.bool a_3]) (.agg [.str b_0,.int .i64 b_1,.int .i64 b_2,.bool b_3])=.ok ((a_0 == b_0)&&decide (a_1=b_1)&&decide (a_2=b_2)&&(a_3 == b_3)))∧(∀ (a_0:Int) (a_1:Int) (a_2_0:Int) (a_2_1:Int) (a_2_2:Int) (b_0:Int) (b_1:Int) (b_2_0:Int) (b_2_1:Int) (b_2_2:Int),mN prog 100 132 (.agg [.int .i64 a_0,.int .i64 a_1,.int .i64 a_2_0,.int .i64 a_2_1,.int .i64 a_2_2]) (.agg [.int .i64 b_0,.int .i64 b_1,.int .i64 b_2_0,.int .i64 b_2_1,.int .i64 b_2_2])=.ok (decide (a_0=b_0)&&decide (a_1=b_1)&&decide (a_2_0=b_2_0)&&decide (a_2_1=b_2_1)&&decide (a_2_2=b_2_2)))∧(∀ (a_0:List UInt8) (a_1:Int) (a_2:Int) (a_3:Int) (b_0:List UInt8) (b_1:Int) (b_2:Int) (b_3:Int),mN prog 100 145 (.agg [.str a_0,.int .i64 a_1,.int .i64 a_2,.int .i64 a_3]) (.agg [.str b_0,.int .i64 b_1,.int .i64 b_2,.int .i64 b_3])=.ok ((a_0 == b_0)&&decide (a_1=b_1)&&decide (a_2=b_2)&&decide (a_3=b_3)))∧(∀ (a_0:List UInt8) (a_1:List UInt8) (a_2:Int) (a_3:Int) (b_0:List UInt8) (b_1:List UInt8) (b_2:Int) (b_3:Int),mN prog 100 201 (.agg [.str a_0,.str a_1,.int .i64 a_2,.int .i64 a_3]) (.agg [.str b_0,.str b_1,.int .i64 b_2,.int .i64 b_3])=.ok ((a_0 == b_0)&&(a_1 == b_1)&&decide (a_2=b_2)&&decide (a_3=b_3)))∧(∀ (a_0:Int) (a_1:Int) (b_0:Int) (b_1:Int),mN prog 100 346 (.agg [.int .i64 a_0,.int .u64 a_1]) (.agg [.int .i64 b_0,.int .u64 b_1])=.ok (decide (a_0=b_0)&&decide (a_1=b_1)))∧(∀ (a_0:Int) (a_1:Int) (a_2:Int) (b_0:Int) (b_1:Int) (b_2:Int),mN prog 100 48 (.agg [.int .i64 a_0,.int .i64 a_1,.int .i64 a_2]) (.agg [.int .i64 b_0,.int .i64 b_1,.int .i64 b_2])=.ok (decide (a_0=b_0)&&decide (a_1=b_1)&&decide (a_2=b_2)))∧(∀ (a_0:Int) (a_1:Int) (a_2:Int) (b_0:Int) (b_1:Int) (b_2:Int),mN prog 100 52 (.agg [.int .i64 a_0,.int .i64 a_1,.int .i64 a_2]) (.agg [.int .i64 b_0,.int .i64 b_1,.int .i64 b_2])=.ok (decide (a_0=b_0)&&decide (a_1=b_1)&&decide (a_2=b_2)))∧(∀ (a_0:List UInt8) (a_1_0:Int) (a_1_1:Int) (a_1_2:Int) (a_2:Int) (b_0:List UInt8) (b_1_0:Int) (b_1_1:Int) (b_1_2:Int) (b_2:Int),mN prog 100 54 (.agg [.str a_0,.int .i64 a_1_0,.int .i64 a_1_1,.int .i64 a_1_2,.int .i64 a_2]) (.agg [.str b_0,.int .i64 b_1_0,.int .i64 b_1_1,.int .i64 b_1_2,.int .i64 b_2])=.ok ((a_0 == b_0)&&decide (a_1_0=b_1_0)&&decide (a_1_1=b_1_1)&&decide (a_1_2=b_1_2)&&decide (a_2=b_2)))∧(∀ (a_0:List UInt8) (a_1:Int) (b_0:List UInt8) (b_1:Int),mN prog 100 57 (.agg [.str a_0,.int .i64 a_1]) (.agg [.str b_0,.int .i64 b_1])=.ok ((a_0 == b_0)&&decide (a_1=b_1)))∧(∀ (a_0:List UInt8) (a_1:Int) (a_2:Int) (a_3:Int) (b_0:List UInt8) (b_1:Int) (b_2:Int) (b_3:Int),mN prog 100 76 (.agg [.str a_0,.int .i64 a_1,.int .i64 a_2,.int .i64 a_3]) (.agg [.str b_0,.int .i64 b_1,.int .i64 b_2,.int .i64 b_3])=.ok ((a_0 == b_0)&&decide (a_1=b_1)&&decide (a_2=b_2)&&decide (a_3=b_3)))∧(∀ (a_0:List UInt8) (a_1:Int) (b_0:List UInt8) (b_1:Int),mN prog 100 90 (.agg [.str a_0,.int .i64 a_1]) (.agg [.str b_0,.int .i64 b_1])=.ok ((a_0 == b_0)&&decide (a_1=b_1)))∧(∀ a b:List V,aL prog 126 (.agg a) (.agg b)=true)∧(∀ a b:List V,aL prog 132 (.agg a) (.agg b)=true)∧(∀ a b:List V,aL prog 145 (.agg a) (.agg b)=true)∧(∀ a b:List V,aL prog 201 (.agg a) (.agg b)=true)∧(∀ a b:List V,aL prog 346 (.agg a) (.agg b)=true)∧(∀ a b:List V,aL prog 48 (.agg a) (.agg b)=true)∧(∀ a b:List V,aL prog 52 (.agg a) (.agg b)=true)∧(∀ a b:List V,aL prog 54 (.agg a) (.agg b)=true)∧(∀ a b:List V,aL prog 57 (.agg a) (.agg b)=true)∧(∀ a b:List V,aL prog 76 (.agg a) (.agg b)=true)∧(∀ a b:List V,aL prog 90 (.agg a) (.agg b)=true):=⟨bDa,bDc,bDe,bDg,bDi,bIj,bIl,bIn,bIp,bIr,bIt,fun a b=>congrFun (congrFun bDb a) b,fun a b=>congrFun (congrFun bDd a) b,fun a b=>congrFun (congrFun bDf a) b,fun a b=>congrFun (congrFun bDh a) b,fun a b=>congrFun (congrFun bDj a) b,fun a b=>congrFun (congrFun bIk a) b,fun a b=>congrFun (congrFun bIm a) b,fun a b=>congrFun (congrFun bIo a) b,fun a b=>congrFun (congrFun bIq a) b,fun a b=>congrFun (congrFun bIs a) b,fun a b=>congrFun (congrFun bIu a) b⟩
theorem agK (P : Program) : (∀ (t : TypeId) (a b : List V), aG P .eql t (.agg a) (.agg b) = (match mN P 100 t (.agg a) (.agg b) with
      | .ok r => .ok (.bool r)
      | .error e => .error e)) ∧ (∀ (t : TypeId) (a b : List V), aG P .neq t (.agg a) (.agg b) = (match mN P 100 t (.agg a) (.agg b) with
      | .ok r => .ok (.bool (!r))
      | .error e => .error e)) := ⟨fun _ _ _ => rfl, fun _ _ _ => rfl⟩
theorem kk:type_of% ex∧type_of% (agK prog)∧type_of% aYg∧type_of% nk∧type_of% kit∧type_of% (bFh prog)∧type_of% bFi∧type_of% fx∧type_of% ls:=⟨ex,agK prog,aYg,nk,kit,bFh prog,bFi,fx,ls⟩
theorem bOl (y:Int) (S:St) (K:KW):C 204 [.int .i64 y] S K=K (.bool (aKc y)) S:=by
 refine (bN1 rfl ?_).eq S K
 simp only [aUx,kk,ne_eq,Int.reduceEq,not_false_eq_true,aKc]
 grind
theorem bFm (y m:Int) (S:St) (K:KW):C 132 [.int .i64 y,.int .i64 m] S K=K (.int .i64 (fT y m)) S:=by
 refine (bLk rfl ?_).eq S K
 simp only [aTj,kk,bOl,fT]
 grind
theorem zX (d:Date) (S:St) (K:KW):C 123 [.agg [.int .i64 d.y,.int .i64 d.m,.int .i64 d.d]] S K=K (.bool d.right) S:=by
 refine (bL6 rfl ?_).eq S K
 simp only [aT5,kk,bFm,Date.right]
 grind
theorem bOm (y:Int) (S:St) (K:KW):C 131 [.int .i64 y] S K=K (.int .i64 (ahead y)) S:=by
 refine (bLi rfl ?_).eq S K
 simp only [aTh,kk,ne_eq,Int.reduceEq,not_false_eq_true,ahead]
theorem bOn (d:Date) (S:St) (K:KW):C 200 [.agg [.int .i64 d.y,.int .i64 d.m,.int .i64 d.d]] S K=K (.int .i64 d.days) S:=by
 refine (bMv rfl ?_).eq S K
 simp only [aUr,kk,zX,bOm,Date.days]
 by_cases hr:d.right=true
 ·simp only [hr,kk]
  have hm:1≤d.m∧d.m≤12:=by simp only [Date.right,Bool.and_eq_true,decide_eq_true_eq] at hr;omega
  refine aY (List.range (d.m - 1).toNat) (step:=lU d.y) (fin:=id) (fun i n vs S=>vs=[.int .i64 n,.int .i64 ((i:Int)+1)]∧aI S 0 0=.ok (3,[d.enc])) (fun r=>V.int .i64 (wr .i64 (wr .i64 (r+d.d) - 1))=.int .i64 (wr .i64 (wr .i64 (aO (lU d.y) id (List.range (d.m - 1).toNat) (ahead d.y)+d.d) - 1))) ?_ ?_ ⟨rfl,by simp only [kk];rfl⟩ rfl
  ·rintro i a n vs S hi ⟨rfl,hg⟩ aP H
   obtain ⟨hil,rfl⟩:=aQc hi
   simp only [lU] at H
   simp only [aFv,kk,hg,Date.enc,bFm]
   rw [if_pos (by omega)]
   refine H _ _ ⟨?_,hg⟩
   rw [qW (n:=(a:Int)+1+1) (by omega) (by omega)]
   simp
  ·rintro n vs S ⟨rfl,hg⟩ aP H
   simp only [aFv,kk,hg,Date.enc]
   rw [if_neg (by simp;omega)]
   exact H
 ·have hr:d.right=false:=by simpa using hr
  simp only [hr,kk]
  rfl
theorem aQd (a b:Date) (S:St) (K:KW):C 124 [.agg [.int .i64 a.y,.int .i64 a.m,.int .i64 a.d],.agg [.int .i64 b.y,.int .i64 b.m,.int .i64 b.d]] S K=K (.bool (a.before b)) S:=by
 refine (bL8 rfl ?_).eq S K
 simp only [aT7,kk,iV,zX,bOn,Date.before]
 cases a.right<;>cases b.right<;>simp
theorem bOo (n:Int) (S:St) (K:KW):C 286 [.int .i64 n] S K=K (.int .u64 (oI n)) S:=by
 refine (bOg rfl ?_).eq S K
 simp only [aWc,kk,unK,oI]
 split<;>rfl
theorem bOp (n:Int) (b:Bool) (S:St) (K:KW):C 287 [.int .u64 n,.bool b] S K=K (.tup [.int .i64 (aAf n b).1,.bool (aAf n b).2]) S:=by
 refine (bOi rfl ?_).eq S K
 simp only [aWe,kk,unK,oo,aAf]
 cases b<;>simp
theorem aQe (a b:Int) (S:St) (K:KW):C 203 [.int .i64 a,.int .i64 b] S K=K (gD (cM a b)) S:=by
 refine (bMz rfl ?_).eq S K
 simp only [aUv,vU,kk,oo,cM,gD]
 grind
theorem bBn (a b:Int) (S:St) (K:KW):C 219 [.int .i64 a,.int .i64 b] S K=K (gD (jX a b)) S:=by
 refine (bN7 rfl ?_).eq S K
 simp only [aV3,vV,kk,oo,jX,gD]
 grind
theorem bOq:(fun (a b:Bool)=>aG prog .neq 4 (.bool a) (.bool b))=fun a b=>.ok (.bool (!(a == b))):=by kernel_rfl
theorem bOr (a b:Bool):aG prog .neq 4 (.bool a) (.bool b)=.ok (.bool (!(a == b))):=congrFun (congrFun bOq a) b
theorem bOs (a b:Int) (S:St) (K:KW):C 279 [.int .i64 a,.int .i64 b] S K=K (gD (aKd a b)) S:=by
 refine (bOe rfl ?_).eq S K
 simp only [aWa,aGd,kk,bOo,bOp,bOr,oo,gD,aKd]
 by_cases h:0<oI b
 ·have h0:oI b≠0:=by omega
  simp only [h,h0,kk,ne_eq,not_false_eq_true]
  grind
 ·simp only [h,kk]
  grind
theorem bOt (n bp:Int) (S:St) (K:KW):C 254 [.int .i64 n,.int .i64 bp,.int .i64 10000] S K=K (gD (cH n bp)) S:=by
 refine (bNy rfl ?_).eq S K
 simp only [aVu,aG5,aG4,kk,unK,oo,gD,bBl,aBo,ne_eq,Int.reduceEq,not_false_eq_true]
 unfold cH
 simp only [oI]
 by_cases hn:n<0<;>simp only [hn,kk,if_true,if_false,aBo]
 all_goals
  by_cases hp:wr .u64 bp=0
  ·simp only [hp,kk,aBo]
   grind
  ·simp only [hp,kk,aBo,ne_eq,not_false_eq_true]
   grind
theorem bFn (n bp:Int) (S:St) (K:KW):C 217 [.int .i64 n,.int .i64 bp] S K=K (gD (cH n bp)) S:=by
 refine (bN3 rfl ?_).eq S K
 simp only [aUz,kk,bOt,gD,oo]
theorem bBo:(fun (a b c:Int)=>lJ Tryz.f255 [.int .u64 a,.int .u64 b,.int .u64 c])=fun a b c=>
  bif decide (0≤a)&&decide (0≤b)&&decide (0≤c)&&decide (c≤1) then .ok (.tup [.int .u64 ((a+b+c) % 18446744073709551616),.int .u64 ((a+b+c) / 18446744073709551616)]) else .error "Add64":=by kernel_rfl
theorem aM1 {a b c:Int} (ha:0≤a) (hb:0≤b) (hc:0≤c) (hc1:c≤1):lJ Tryz.f255 [.int .u64 a,.int .u64 b,.int .u64 c]=.ok (.tup [.int .u64 ((a+b+c) % 18446744073709551616),.int .u64 ((a+b+c) / 18446744073709551616)]):=by
 refine (congrFun (congrFun (congrFun bBo a) b) c).trans ?_
 simp only [ha,hb,hc,hc1,decide_true,Bool.and_self,cond_true]
theorem aNz (P:Program) (t:TypeId) (a:Int):aG P .shr t (.int .u64 a) (.int .u64 63)=.ok (.int .u64 (a.fdiv (2 ^ 63))):=rfl
theorem bOu (l:List Int) (hb:l.length<1000000) (S:St) (K:KW):C 218 [.imm (l.map hY)] S K=K (.tup [.int .i64 (hZ l).1,.bool (hZ l).2]) S:=by
 refine (bN5 rfl ?_).eq S K
 simp only [aV1,kk]
 refine aY l (step:=sF) (fin:=rA) (fun i st vs S=>vs=[.int .u64 st.1,.int .u64 st.2,.int .i64 (i:Int)]∧0≤st.1∧st.1<18446744073709551616∧0≤st.2∧st.2<18446744073709551616) (fun r=>V.tup [.int .i64 r.1,.bool r.2]=.tup [.int .i64 (hZ l).1,.bool (hZ l).2])
  ?_ ?_ (s:=(0,0)) ⟨rfl,by decide,by decide,by decide,by decide⟩ rfl
 ·rintro i n ⟨h,lo⟩ vs S hi ⟨rfl,r1,r2,r3,r4⟩ aP H
  have hr:=aNv n
  have hil:=(List.getElem?_eq_some_iff.1 hi).1
  simp only at r1 r2 r3 r4
  have hc1:(lo+wr .u64 n+0) / 18446744073709551616≤1:=by omega
  have hc0:0≤(lo+wr .u64 n+0) / 18446744073709551616:=by omega
  have hI:=H [.int .u64 ((h+(if n<0 then 18446744073709551615 else 0)+(lo+wr .u64 n+0) / 18446744073709551616) % 18446744073709551616),.int .u64 ((lo+wr .u64 n+0) % 18446744073709551616),.int .i64 ((i+1:Nat):Int)] S ⟨rfl,by simp only;omega,by simp only;omega,by simp only;omega,by simp only;omega⟩
  simp only [aFx,aFw,kk,dI hi,bFj hi,hY,unK,bFd]
  by_cases hn:n<0
  ·simp only [hn,kk,if_true,aM1 (c:=0) r3 hr.1 (by decide) (by decide),aM1 r1 (show (0:Int)≤18446744073709551615 by decide) hc0 hc1,nU (show i<1000000000 by omega)] at hI ⊢
   exact hI
  ·simp only [hn,kk,if_false,aM1 (c:=0) r3 hr.1 (by decide) (by decide),aM1 r1 (show (0:Int)≤0 by decide) hc0 hc1,nU (show i<1000000000 by omega)] at hI ⊢
   exact hI
 ·rintro ⟨h,lo⟩ vs S ⟨rfl,r1,r2,r3,r4⟩ aP H
  simp only [aFx,kk,Int.lt_irrefl,aNz,rA,oo] at H ⊢
  by_cases c:lo.fdiv (2 ^ 63)=0<;>simp only [c,kk,if_true,if_false] at H ⊢<;>exact H
theorem bOv (r:Int) (S:St) (K:KW):C 225 [.int .i32 r] S K=K (.bool (vX r)) S:=by
 refine (bNb rfl ?_).eq S K
 simp only [aV7,aAc,aFz,kk,vX]
 grind
theorem aXn (s:List UInt8) (a pos:Nat) (S:St) (hg:S.heap.get a=some (.iter s pos)) (hl:pos<s.length):
  qT (.ptr a 0 0 0) S=.ok (.tup [.bool true,.int .i64 pos,.int .i32 (Utf8.decode ⟨⟨s⟩⟩ pos).1],⟨S.next,S.heap.put a (.iter s (pos+(Utf8.decode ⟨⟨s⟩⟩ pos).2))⟩):=by
 have hb:Nat.blt pos s.length=true:=Nat.ble_eq_true_of_le hl
 have hs:s[pos]?=some s[pos]:=List.getElem?_eq_getElem hl
 simp only [qT,hg,hb,hs]
 split
 ·rename_i h
  rw [Go.AM.decode_ascii hs (by simpa using h)]
 ·rfl
theorem aI7 (s:List UInt8) (a pos:Nat) (S:St) (hg:S.heap.get a=some (.iter s pos)) (hl:s.length≤pos):qT (.ptr a 0 0 0) S=.ok (.tup [.bool false],S):=by
 have hb:Nat.blt pos s.length=false:=by
  cases h:Nat.blt pos s.length with
  | false=>rfl
  | true=>exact absurd (Nat.le_of_ble_eq_true h) (by omega)
 simp only [qT,hg,hb]
def IterAt (s:List UInt8) (i:Nat) (S:St):Prop:=∃ pos f,S.heap.get 0=some (.iter s pos)∧(nC s s.length 0).drop i=nC s f pos∧s.length≤f+pos
theorem IterAt.next {s:List UInt8} {i:Nat} {S:St} (h:IterAt s i S) {q r:Nat} (hi:(nC s s.length 0)[i]?=some (q,r)):∃ S',qT (.ptr 0 0 0 0) S=.ok (.tup [.bool true,.int .i64 q,.int .i32 r],S')∧IterAt s (i+1) S':=by
 obtain ⟨pos,f,hg,hd,hf⟩:=h
 have hd0:=congrArg (·[0]?) hd
 simp only [List.getElem?_drop,Nat.add_zero,hi] at hd0
 cases f with
 | zero=>simp [nC] at hd0
 | succ f=>
  have hl:pos<s.length:=by
   by_cases hl:pos<s.length
   ·exact hl
   ·simp [nC,hl] at hd0
  have hd2:nC s (f+1) pos=(pos,(Utf8.decode ⟨⟨s⟩⟩ pos).1)::nC s f (pos+(Utf8.decode ⟨⟨s⟩⟩ pos).2):=by simp only [nC,hl,if_true]
  rw [hd2] at hd0 hd
  simp only [List.getElem?_cons_zero,Option.some.injEq,Prod.mk.injEq] at hd0
  obtain ⟨rfl,rfl⟩:=hd0
  have hw:=aI0 ⟨⟨s⟩⟩ q
  exact ⟨_,aXn s 0 q S hg hl,_,f,Tr.get_put_sameB _ _ _ trivial,by rw [←List.drop_drop,hd];rfl,by omega⟩
theorem IterAt.last {s:List UInt8} {S:St} (h:IterAt s (nC s s.length 0).length S):qT (.ptr 0 0 0 0) S=.ok (.tup [.bool false],S):=by
 obtain ⟨pos,f,hg,hd,hf⟩:=h
 rw [List.drop_length] at hd
 cases f with
 | zero=>exact aI7 s 0 pos S hg (by omega)
 | succ f=>
  by_cases hl:pos<s.length
  ·simp [nC,hl] at hd
  ·exact aI7 s 0 pos S hg (by omega)
theorem aI8 (s:List UInt8):xJ (.str s) none ⟨0,.nil⟩=.ok (.ptr 0 0 0 0,⟨1,Tr.nil.put 0 (.iter s 0)⟩)∧IterAt s 0 ⟨1,Tr.nil.put 0 (.iter s 0)⟩:=⟨rfl,0,s.length,Tr.get_put_sameB _ _ _ trivial,rfl,by omega⟩
theorem aQf (s:List UInt8) (S:St) (K:KW):C 165 [.str s] S K=K (.bool (eN s)) S:=by
 refine (bLw rfl ?_).eq S K
 simp only [aTv,kk,(aI8 s).1,eN]
 by_cases h1:s.length<1
 ·rw [if_pos (by omega)];simp [h1]
 by_cases h2:24<s.length
 ·rw [if_neg (by omega),if_pos (by omega)];simp [h1,h2]
 rw [if_neg (by omega),if_neg (by omega)]
 simp only [h1,h2,kk]
 refine aY (nC s s.length 0) (step:=vY) (fin:=fun _=>true) (fun i _ vs S=>vs=[.bool false]∧IterAt s i S) (fun r=>V.bool r=.bool (aO vY (fun _=>true) (nC s s.length 0) ())) ?_ ?_ (s:=()) ⟨rfl,(aI8 s).2⟩ rfl
 ·rintro i ⟨q,r⟩ _ vs S hi ⟨rfl,hI⟩ aP H
  obtain ⟨S',e,hI'⟩:=hI.next hi
  simp only [aFk,kk,e,bOv]
  simp only [vY] at H
  have H1:=fun h:vX (r:Int)=true=>(by simpa only [h,if_true] using H:∀ vs' S',vs'=[.bool false]∧IterAt s (i+1) S'→aP vs' S') [.bool false] S' ⟨rfl,hI'⟩
  by_cases c1:vX (r:Int)=true
  ·simp only [c1,if_true];exact H1 c1
  ·simp only [c1,if_false] at H ⊢
   by_cases c2:q=0
   ·subst c2;simp at H ⊢;exact H
   ·have c2':¬ (q:Int)=0:=by omega
    simp only [c2,c2',if_false] at H ⊢
    by_cases c3:(48≤r∧r≤57)∨r=45∨r=95∨r=46
    ·simp only [c3,if_true] at H
     have h0:=H [.bool false] S' ⟨rfl,hI'⟩
     grind
    ·simp only [c3,if_false] at H
     grind
 ·rintro _ vs S ⟨rfl,hI⟩ aP H
  simp only [aFk,kk,hI.last]
  exact H
theorem bFo (r:Rate) (S:St) (K:KW):C 163 [.agg [.str r.cat,.int .i64 r.day.y,.int .i64 r.day.m,.int .i64 r.day.d,.int .i64 r.bp]] S K=K (.int .i64 (tZ r)) S:=by
 refine (bLs rfl ?_).eq S K
 simp only [aTr,kk,aQf,zX,tZ]
 cases eN r.cat<;>cases r.day.right<;>simp
 grind
theorem bFp (a b:Rate) (S:St) (K:KW):C 164 [.agg [.str a.cat,.int .i64 a.day.y,.int .i64 a.day.m,.int .i64 a.day.d,.int .i64 a.bp],.agg [.str b.cat,.int .i64 b.day.y,.int .i64 b.day.m,.int .i64 b.day.d,.int .i64 b.bp]] S K=K (.bool (fO a b)) S:=by
 refine (bLu rfl ?_).eq S K
 simp only [aTt,kk,aQd,iV,fO]
 cases eZ a.cat b.cat<;>cases (a.cat == b.cat)<;>simp
theorem g85 (l:List Rate) (S:St) (K:KW):C 85 [.imm (l.map Rate.enc)] S K=K (.bool (fY l)) S:=by
 refine (v85 rfl ?_).eq S K
 simp only [m85,kk,fY]
 by_cases h:24<l.length
 ·rw [if_pos (by omega),if_pos h]
 have h':¬ (24:Int)<(l.length:Int):=by omega
 simp only [h,h',kk]
 refine aY l (step:=iR) (fin:=fun _=>true) (fun i s vs S=>s=fZ l i∧vs=[.bool false,.int .i64 (i:Int)]) (fun r=>V.bool r=.bool (aO iR (fun _=>true) l none)) ?_ ?_ ⟨rfl,rfl⟩ rfl
 ·rintro i r s vs S hi ⟨rfl,rfl⟩ aP H
  have hil:=(List.getElem?_eq_some_iff.1 hi).1
  have hn:fZ l (i+1)=some r:=by simpa [fZ] using hi
  simp only [hn] at H
  simp only [aK3,kk,dI hi,aGi hi,Rate.enc,bFo,nU (show i<1000000000 by omega),iR] at H ⊢
  by_cases c:tZ r=0
  ·simp only [c,kk,ne_eq,not_true_eq_false] at H ⊢
   cases i with
   | zero=>simp [fZ] at H ⊢;exact H _ _ rfl
   | succ j=>
    have hj:l[j]?=some l[j]:=List.getElem?_eq_getElem (by omega)
    have hp:fZ l (j+1)=some l[j]:=by simp [fZ,hj]
    simp only [hp,gt0,kk,wrm (show j+1<1000000000 by omega),aGi hj,Rate.enc,bFp] at H ⊢
    cases ha:fO l[j] r<;>simp [ha] at H ⊢<;>first | exact H | exact H _ _ rfl
  ·simp [c] at H ⊢
   exact H
 ·rintro s vs S ⟨rfl,rfl⟩ aP H
  simp only [aK3,kk,Int.lt_irrefl]
  exact H
end Go.Proofs.YtoaibmbldmckaaaGreat
end
section
namespace Go.AM
theorem sH (P:Program) (C:aD) (g:FuncId) (a b args:List V) (S:St) (K:KW) (h:gU P g=some none):aF3 P C (.func g a b) args S K=C g (a++args++b) S K:=by simp only [aF3,aF2,h];rfl
theorem Own.frz {S0 S:St} {n:Nat} {v:V} {es:List (List V)} (h:Own S0 S n v es) (hc:es.all cloVs=true):dQ mQ (qD (lE S 3) S) v=.ok (.imm es):=by
 rcases h.is with ⟨rfl,rfl⟩ | ⟨a,ver,tl,rfl,_,_,q⟩
 ·rfl
 ·have he:bX S (.sl a ver n 0 es.length)=.ok es:=h.sl.elems
  simp only [dQ,qD,he,(oG (S:=S) (n:=2) hc).1]
theorem Own.ptrs {S0 S:St} {n:Nat} {v:V} {es:List (List V)} (h:Own S0 S n v es):qJ v=[]:=by
 rcases h.is with ⟨rfl,rfl⟩ | ⟨a,ver,tl,rfl,_,_,q⟩<;>rfl
theorem dV {α:Type} {enc:α→List V} (h:∀ x,cloVs (enc x)=true) (l:List α):(l.map enc).all cloVs=true:=by
 rw [List.all_eq_true]
 intro y hy
 obtain ⟨x,_,rfl⟩:=List.mem_map.1 hy
 exact h x
theorem Sl.imm {n:Nat} {es:List (List V)} (S:St) (h:∀ cs,cs∈es→cs.length=n∧aN cs=true):Sl S n (.imm es) es:=⟨.inr (.inl rfl),h⟩
abbrev E0:St:=⟨0,.nil⟩
theorem qA:WF E0:=fun a b h=>by cases h
theorem aQg {α:Type} {enc:α→List V} {n b:Nat} (hl:∀ x,(enc x).length=n∧aN (enc x)=true) (l:List α) {S:St} (w:WF S) (h1:l.length*b≤35184372088832) (h2:l.length<fK):
  ∃ v S',dL n b .nils (.imm (l.map enc)) none S=.ok (v,S')∧Ext S S'∧Own E0 S' n v (l.map enc):=by
 obtain ⟨v,S',q1,q2,q3⟩:=(Sl.imm (n:=n) (es:=l.map enc) S (fun cs hc=>by obtain ⟨x,_,rfl⟩:=List.mem_map.1 hc;exact hl x)).copy (b:=b) w (by rw [List.length_map];exact h1) (by rw [List.length_map];exact h2)
 exact ⟨v,S',q1,q2,q3.weaken (Nat.zero_le _)⟩
theorem aM2 {α:Type} {enc:α→List V} {n b:Nat} (hl:∀ x,(enc x).length=n∧aN (enc x)=true) (l:List α) {S:St} (w:WF S) (h1:l.length*b≤35184372088832) (h2:l.length<fK):
  ∃ v S',dL n b .nils (.imm (l.map enc)) none S=.ok (v,S')∧Ext S S'∧Own S S' n v (l.map enc):=
 (Sl.imm (n:=n) (es:=l.map enc) S (fun cs hc=>by obtain ⟨x,_,rfl⟩:=List.mem_map.1 hc;exact hl x)).copy (b:=b) w (by rw [List.length_map];exact h1) (by rw [List.length_map];exact h2)
theorem aCz {S:St} (w:WF S):Ext E0 S:=⟨fun a b h=>(by cases h),Nat.zero_le _,fun _=>w⟩
theorem Pt.fn {l:V} {f:FuncId} (hl:xO l=true):Pt fun a=>[l,.func f [] [.ptr a 0 0 0]]:=Pt.next hl (Pt.func rfl)
end Go.AM
namespace Go.Proofs.YtoaibmbldmckaaaGreat
open Go.AM Tryz
set_option linter.unusedVariables false
set_option linter.unusedSimpArgs false
set_option maxRecDepth 100000
theorem bOw (fk:Nat) (ht:gU prog fk=some none) {n:Nat} {cap:List V} (hcap:cloVs cap=true) (p:Sess→Bool) (hf:∀ s:Sess,Fr fk (fun a=>[.agg s.enc,.ptr a 0 0 0]) n cap (.bool (p s)) cap) (l:List Sess) (hb:l.length<1000000):
  Fr 231 (fun a=>[.imm (l.map Sess.enc),.func fk [] [.ptr a 0 0 0]]) n cap (.int .i64 (ixM p l)) cap:=by
 refine FnR.of bF2 (lv:=bE 231) (Pt.fn rfl) (by simp [hcap]) ?_ rfl (by simp [hcap])
 rw [bNj]
 simp only [aZr,kk]
 refine aY l (step:=eU p) (fin:=fun _=>-1) (fun i k vs S=>k=i∧vs=[.int .i64 0,.int .i64 (i:Int)]∧S.heap.get 0=some (.row 0 n [cap])) (fun r=>r=ixM p l) ?_ ?_ ⟨rfl,rfl,Tr.get_put_sameB _ _ _ trivial⟩ rfl
 ·rintro i s k vs S hi ⟨rfl,rfl,hg⟩ aP H
  have hil:=(List.getElem?_eq_some_iff.1 hi).1
  have he:=(hf s).eq_same hg
  simp only [Sess.enc] at he
  simp only [aG2,kk,dI hi,aBv hi,Sess.enc,sH _ _ _ _ _ _ _ _ ht,List.nil_append,List.cons_append,he,nU (show k<1000000000 by omega)]
  simp only [eU] at H
  cases hp:p s<;>simp only [hp,kk] at H ⊢
  ·exact H _ _ ⟨rfl,rfl,hg⟩
  ·exact ⟨by rw [H],hg⟩
 ·rintro k vs S ⟨rfl,rfl,hg⟩ aP H
  simp only [aG2,kk,Int.lt_irrefl]
  exact ⟨by rw [H],hg⟩
theorem bFq (fk:Nat) (ht:gU prog fk=some none) {n:Nat} {cap:List V} (hcap:cloVs cap=true) (p:Ser→Bool) (hf:∀ s:Ser,Fr fk (fun a=>[.agg s.enc,.ptr a 0 0 0]) n cap (.bool (p s)) cap) (l:List Ser) (hb:l.length<1000000):
  Fr 152 (fun a=>[.imm (l.map Ser.enc),.func fk [] [.ptr a 0 0 0]]) n cap (.int .i64 (ixM p l)) cap:=by
 refine FnR.of bEu (lv:=bE 152) (Pt.fn rfl) (by simp [hcap]) ?_ rfl (by simp [hcap])
 rw [bLl]
 simp only [aZn,kk]
 refine aY l (step:=eU p) (fin:=fun _=>-1) (fun i k vs S=>k=i∧vs=[.int .i64 0,.int .i64 (i:Int)]∧S.heap.get 0=some (.row 0 n [cap])) (fun r=>r=ixM p l) ?_ ?_ ⟨rfl,rfl,Tr.get_put_sameB _ _ _ trivial⟩ rfl
 ·rintro i s k vs S hi ⟨rfl,rfl,hg⟩ aP H
  have hil:=(List.getElem?_eq_some_iff.1 hi).1
  have he:=(hf s).eq_same hg
  simp only [Ser.enc] at he
  simp only [aFf,kk,dI hi,zC hi,Ser.enc,sH _ _ _ _ _ _ _ _ ht,List.nil_append,List.cons_append,he,nU (show k<1000000000 by omega)]
  simp only [eU] at H
  cases hp:p s<;>simp only [hp,kk] at H ⊢
  ·exact H _ _ ⟨rfl,rfl,hg⟩
  ·exact ⟨by rw [H],hg⟩
 ·rintro k vs S ⟨rfl,rfl,hg⟩ aP H
  simp only [aFf,kk,Int.lt_irrefl]
  exact ⟨by rw [H],hg⟩
theorem bFr:gU prog 232=some none:=by kernel_rfl
theorem bOx (id:Int) (s:Sess):Fr 232 (fun a=>[.agg s.enc,.ptr a 0 0 0]) 1 [.int .i64 id] (.bool (decide (s.id=id))) [.int .i64 id]:=by
 refine FnR.of bF3 (lv:=bE 232) (Pt.next rfl (Pt.head rfl)) rfl ?_ rfl rfl
 rw [bNk]
 simp only [aZs,kk,Sess.enc,iV]
 rfl
theorem bFs (l:List Sess) (id:Int) (hb:l.length<1000000):Fv 174 [.imm (l.map Sess.enc),.int .i64 id] (.int .i64 (gP l id)):=by
 refine bM9 rfl ?_
 have h:=(bOw 232 bFr rfl _ (bOx id) l hb).eq_same (S:=⟨1,Tr.nil.put 0 (.row 0 1 [[.int .i64 id]])⟩) (a:=0) (Tr.get_put_sameB _ _ _ trivial)
 simp only [aU8,kk,h,gP]
theorem bBp (l:List Sess) (id:Int) (hb:l.length<1000000) (S:St) (K:KW):C 174 [.imm (l.map Sess.enc),.int .i64 id] S K=K (.int .i64 (gP l id)) S:=(bFs l id hb).eq S K
theorem aXo (l:List Sess) (S:St) (K:KW):C 166 [.imm (l.map Sess.enc)] S K=K (.bool (gE l)) S:=by
 refine (bLy rfl ?_).eq S K
 simp only [aTx,kk,gE]
 by_cases h:8<l.length
 ·rw [if_pos (by omega),if_pos h]
 have h':¬ (8:Int)<(l.length:Int):=by omega
 simp only [h,h',kk]
 refine aY l (step:=jD) (fin:=fun _=>true) (fun i s vs S=>vs=[.bool false,.int .i64 s,.int .i64 (i:Int)]) (fun r=>V.bool r=.bool (aO jD (fun _=>true) l 0)) ?_ ?_ rfl rfl
 ·rintro i s last vs S hi rfl aP H
  have hil:=(List.getElem?_eq_some_iff.1 hi).1
  have hn:((s.reply=Rep.zero):Prop)=((s.reply.why=0∧s.reply.number=0)∧s.reply.gross=0):=by
   obtain ⟨_,_,⟨_,_,_⟩⟩:=s;simp [Rep.zero,and_assoc]
  simp only [jD,hn,kk] at H
  simp only [aFl,kk,dI hi,aBv hi,Sess.enc,nU (show i<1000000000 by omega)]
  grind
 ·rintro s vs S rfl aP H
  simp only [aFl,kk,Int.lt_irrefl]
  exact H
end Go.Proofs.YtoaibmbldmckaaaGreat
end
section
namespace Go.AM
theorem bsl (n:Nat) (z:List V) (parts:List (Nat×V)) (fr:Option Nat) (S:St) (hn:n≤1000):aR n z 1 parts fr S=(match sL n [z] parts with
  | .error e=>.error e
  | .ok elems=>match aJ fr S (.row 0 n elems) with
   | .error e=>.error e
   | .ok (a,S')=>.ok (.sl a 0 n 0 1,S')):=by
 unfold aR
 rw [if_pos (by omega)]
 rfl
theorem bOy (z:List V) (parts:List (Nat×V)) (fr:Option Nat) (S:St):type_of% (bsl 1 z parts fr S (by decide)):=bsl 1 z parts fr S (by decide)
theorem bFt (z:List V) (parts:List (Nat×V)) (fr:Option Nat) (S:St):type_of% (bsl 2 z parts fr S (by decide)):=bsl 2 z parts fr S (by decide)
theorem aQh (z:List V) (parts:List (Nat×V)) (fr:Option Nat) (S:St):type_of% (bsl 4 z parts fr S (by decide)):=bsl 4 z parts fr S (by decide)
theorem bFu (z:List V) (parts:List (Nat×V)) (fr:Option Nat) (S:St):type_of% (bsl 5 z parts fr S (by decide)):=bsl 5 z parts fr S (by decide)
theorem aYh (z:List V) (parts:List (Nat×V)) (fr:Option Nat) (S:St):type_of% (bsl 12 z parts fr S (by decide)):=bsl 12 z parts fr S (by decide)
theorem lC {n m k:Nat} {h:Tr Blk} {b:Blk} (w:WF ⟨n,h⟩) (h1:k<m) (h2:n≤m):WF ⟨m,h.put k b⟩:=by
 intro a c hc
 have hc':(h.put k b).get a=some c:=hc
 rw [Tr.get_putB _ _ _ _ trivial] at hc'
 split at hc'
 ·show a<m;omega
 ·have:=w a c hc';show a<m;have:a<n:=this;omega
theorem WF.bump {S:St} (w:WF S) (c:Nat):WF ⟨S.next+c,S.heap⟩:=fun a b h=>Nat.lt_of_lt_of_le (w a b h) (Nat.le_add_right _ _)
theorem wP {S:St} {a ver n:Nat} {el:List (List V)} (h:aI S a ver=.ok (n,el)):S.heap.get a=some (.row ver n el):=by
 unfold aI at h
 split at h
 ·rename_i v es els he
  rw [cond_eq_ite] at h
  split at h
  ·rename_i hv
   have:=Nat.eq_of_beq_eq_true hv
   cases h
   rw [he,this]
  ·cases h
 ·cases h
theorem bI {S S':St} {a ver n:Nat} {el:List (List V)} (hg:aI S a ver=.ok (n,el)) (h:S'.heap.get a=S.heap.get a):aI S' a ver=.ok (n,el):=by
 rw [←hg];unfold aI;rw [h]
theorem aYi {P:Program} {T:TypeId} {n b:Nat} (hT:apT P T=some (n,b)) (hn:1<n) {S:St} {v:V} {es:List (List V)} (h:Own E0 S n v es) (w:WF S) {c:List V} (hc:c.length=n∧aN c=true) (h1:(es.length+1)*b≤35184372088832) (h2:es.length+1<fK) {i:Nat} (hi:i≤es.length):
  ∃ v' S',gC P T v (.int .i64 (i:Int)) (.sl S.next 0 n 0 1) ⟨S.next+1,S.heap.put S.next (.row 0 n [c])⟩=.ok (v',S')∧WF S'∧Own E0 S' n v' (es.take i++c::es.drop i)∧∀ y,y<S.next→(∀ a ver m,v=.sl a ver n 0 m→y≠a)→S'.heap.get y=S.heap.get y:=by
 have x:Ext S ⟨S.next+1,S.heap.put S.next (.row 0 n [c])⟩:=Ext.new w _
 obtain ⟨v',S',q1,q2,q3,q4⟩:=(h.ext x).insertK hT hn (aCz (x.wf w)) qA (bx:=S.next) (c:=c) (aS _ _ _ _ _ _) (fun a ver m hv=>by
  rcases h.is with ⟨rfl,_⟩ | ⟨a',ver',tl,rfl,_,hlt,_⟩
  ·cases hv
  ·cases hv;omega) hc h1 h2 hi
 refine ⟨v',S',q1,q2.wf qA,q3,fun y hy hya=>?_⟩
 rw [q4 y (by show y<S.next+1;omega) hya]
 exact Tr.get_put_neB _ _ _ _ trivial (by omega)
theorem bFv {P:Program} {T:TypeId} {n b:Nat} (hT:apT P T=some (n,b)) (hn:1<n) {S:St} {v:V} {es:List (List V)} (h:Own E0 S n v es) (w:WF S) {c:List V} (hc:c.length=n∧aN c=true) (h1:(es.length+1)*b≤35184372088832) (h2:es.length+1<fK) {i:Nat} (hi:i≤es.length):
  ∃ v' S',gC P T v (.int .i64 (i:Int)) (.sl S.next 0 n 0 1) ⟨S.next+1,S.heap.put S.next (.row 0 n [c])⟩=.ok (v',S')∧WF S'∧Own E0 S' n v' (es.take i++c::es.drop i):=by
 obtain ⟨v',S',q1,q2,q3,_⟩:=aYi hT hn h w hc h1 h2 hi
 exact ⟨v',S',q1,q2,q3⟩
end Go.AM
namespace Go.Proofs.YtoaibmbldmckaaaGreat
open Go.AM Tryz
set_option linter.unusedVariables false
set_option linter.unusedSimpArgs false
set_option maxRecDepth 100000
theorem aO0 {f:FuncId} {T:TypeId} (hpl:uU f=some (.spec ((Sp.ins T).run prog))) {s i x v:V} {S S':St} (h:gC prog T s i x S=.ok (v,S')) (K:KW):C f [s,i,x] S K=K v S':=aPn hpl (args:=[s,i,x]) (show (Sp.ins T).run prog [s,i,x] S=.ok (v,S') from h) K
theorem bOz {f:FuncId} {T:TypeId} (hpl:uU f=some (.spec ((Sp.del T).run prog))) {s i x v:V} {S S':St} (h:oZ prog T s i x S=.ok (v,S')) (K:KW):C f [s,i,x] S K=K v S':=aPn hpl (args:=[s,i,x]) (show (Sp.del T).run prog [s,i,x] S=.ok (v,S') from h) K
theorem bP0:apT prog 28=some (5,40):=by kernel_rfl
theorem bP1:apT prog 25=some (4,40):=by kernel_rfl
theorem bFw:uU 230=some (.spec ((Sp.ins 28).run prog)):=by kernel_rfl
theorem bFx:uU 234=some (.spec ((Sp.ins 25).run prog)):=by kernel_rfl
theorem bFy:uU 240=some (.spec ((Sp.del 28).run prog)):=by kernel_rfl
theorem aI9 (x:Sess):x.enc.length=5∧aN x.enc=true:=⟨rfl,rfl⟩
theorem aQi (x:Ser):x.enc.length=4∧aN x.enc=true:=⟨rfl,rfl⟩
theorem bFz (l:List Sess) (id seq:Int) (S:St) (K:KW):C 105 [.imm (l.map Sess.enc),.int .i64 id,.int .i64 seq] S K=K (.tup [.agg [.int .i64 (cN l id seq).1.why,.int .i64 (cN l id seq).1.number,.int .i64 (cN l id seq).1.gross],.bool (cN l id seq).2.1,.int .i64 (cN l id seq).2.2]) S:=by
 refine (bL0 rfl ?_).eq S K
 simp only [aSz,aFc,kk,aXo]
 by_cases hr:gE l=true
 ·have hb:=lV hr
  simp only [hr,kk,bBp l id (show l.length<1000000 by omega),cN,Bool.true_eq_false,if_false]
  rcases jE l id with h | ⟨i,s,h,h2,h3⟩
  ·simp only [h,show (-1:Int)<0 by decide,kk,oo,Rep.zero,if_true]
  ·simp only [h,show ¬ (i:Int)<0 by omega,kk,if_false,aBv h2,Sess.enc,Int.toNat_natCast,h2]
   by_cases c1:seq<1
   ·simp only [c1,kk,oo,Rep.zero,true_or,if_true]
   ·by_cases c2:1099511627776<seq
    ·simp only [c1,c2,kk,oo,Rep.zero,or_true,if_true,if_false,decide_true]
    ·simp only [c1,c2,kk,oo,or_self,if_false,decide_false]
     by_cases c3:seq=s.last
     ·simp only [c3,kk,oo,if_true]
     ·by_cases c4:seq<s.last<;>simp only [c3,c4,kk,oo,Rep.zero,if_true,if_false]
 ·have hr:gE l=false:=by simpa using hr
  simp only [hr,kk,oo,cN,Rep.zero,if_true]
theorem bG0 (l:List Sess) (n:Int) (S:St) (K:KW):C 173 [.imm (l.map Sess.enc),.int .i64 n] S K=K (.tup [.imm ((nF l n).1.map Sess.enc),.int .i64 (nF l n).2]) S:=by
 refine (bM7 rfl ?_).eq S K
 simp only [aU6,aFp,kk,aXo]
 by_cases hr:gE l=true
 ·have hb:=lV hr
  simp only [hr,kk,bBp l n (show l.length<1000000 by omega),nF,Bool.true_eq_false,false_or]
  by_cases c1:n<1
  ·simp only [c1,kk,oo,if_true,List.map_nil]
  ·simp only [c1,kk,if_false]
   by_cases c2:0≤gP l n
   ·simp only [c2,kk,oo,if_true,List.map_nil]
   ·by_cases c3:8≤l.length
    ·simp only [c2,c3,show (8:Int)≤(l.length:Int) by omega,kk,oo,if_true,if_false,List.map_nil]
    ·simp only [c2,c3,show ¬ (8:Int)≤(l.length:Int) by omega,kk,if_false]
     have hj:∀ k:Nat,k=lB (fun s:Sess=>decide (s.id<n)) l→aAa C (fun v0 S0=>cC S0 v0=Except.ok (.tup [.imm ((eH l (lB (fun s:Sess=>decide (s.id<n)) l) ⟨n,0,Rep.zero⟩).map Sess.enc),.int .i64 0])) (.imm (l.map Sess.enc)) (.int .i64 n) (.int .i64 (k:Int)) ⟨0,.nil⟩:=by
      intro k hk
      obtain ⟨v,S1,q1,x1,own⟩:=aQg (b:=40) aI9 l qA (by omega) (by unfold fK;omega)
      have w1:=x1.wf qA
      have hkl:k≤l.length:=by rw [hk];exact vZ _ _
      obtain ⟨v2,S2,q2,w2,own2⟩:=bFv bP0 (by decide) own w1 (aI9 ⟨n,0,Rep.zero⟩) (by simp;omega) (by simp [fK];omega) (i:=k) (by simpa using hkl)
      simp only [Sess.enc,Rep.zero] at q2
      simp only [aAa,kk,q1,bFu]
      rw [aO0 bFw q2]
      rw [←lW] at own2
      simp only [oo,own2.frz (dV (fun _=>rfl) _),hk]
     refine aY l (step:=eO (fun s:Sess=>decide (s.id<n))) (fin:=id) (fun i k vs S=>k=i∧vs=[.int .i64 (i:Int)]∧S=⟨0,.nil⟩) (fun r=>r=lB (fun s:Sess=>decide (s.id<n)) l) ?_ ?_ ⟨rfl,rfl,rfl⟩ rfl
     ·rintro i s k vs S hi ⟨rfl,rfl,rfl⟩ aP H
      have hil:=(List.getElem?_eq_some_iff.1 hi).1
      simp only [eO] at H
      simp only [aFo,kk,dI hi,aBv hi,Sess.enc,nU (show k<1000000000 by omega)]
      by_cases c:s.id<n<;>simp only [c,kk,if_true,if_false,decide_true,decide_false] at H ⊢
      ·exact H _ _ ⟨rfl,rfl⟩
      ·exact hj _ H
     ·rintro k vs S ⟨rfl,rfl,rfl⟩ aP H
      simp only [aFo,kk,Int.lt_irrefl]
      exact hj _ (by simpa using H)
 ·have hr:gE l=false:=by simpa using hr
  simp only [hr,kk,oo,nF,true_or,if_true,List.map_nil]
theorem bP2:jL prog 28=some 132:=by kernel_rfl
theorem bG1:rR prog 132=some [.int .i64 0,.int .i64 0,.int .i64 0,.int .i64 0,.int .i64 0]:=by kernel_rfl
theorem bG2:sz prog 132=5:=by kernel_rfl
theorem bP3 (l:List Sess) (id:Int) (S:St) (K:KW):C 182 [.imm (l.map Sess.enc),.int .i64 id] S K=K (.tup [.imm ((gA l id).1.map Sess.enc),.int .i64 (gA l id).2]) S:=by
 refine (bMp rfl ?_).eq S K
 simp only [aUm,kk,aXo]
 by_cases hr:gE l=true
 ·have hb:=lV hr
  simp only [hr,kk,bBp l id (show l.length<1000000 by omega),gA,Bool.true_eq_false]
  rcases jE l id with h | ⟨i,s,h,h2,h3⟩
  ·simp only [h,show (-1:Int)<0 by decide,kk,oo,if_true,List.map_nil]
  ·have hil:=(List.getElem?_eq_some_iff.1 h2).1
   obtain ⟨v,S1,q1,x1,own⟩:=aQg (b:=40) aI9 l qA (by omega) (by unfold fK;omega)
   obtain ⟨v2,S2,q2,x2,own2⟩:=own.delete bP2 bG1 bG2 (aCz (x1.wf qA)) qA (by simp [fK];omega) (i:=i) (by simpa using hil)
   rw [←aKe] at own2
   simp only [h,show ¬ (i:Int)<0 by omega,kk,if_false,q1,qW (show -9223372036854775808≤(i:Int)+1 by omega) (show (i:Int)+1≤9223372036854775807 by omega),Int.toNat_natCast]
   rw [bOz bFy q2]
   simp only [oo,own2.frz (dV (fun _=>rfl) _)]
 ·have hr:gE l=false:=by simpa using hr
  simp only [hr,kk,oo,gA,if_true,List.map_nil]
theorem bP4 (l:List Sess) (id seq:Int) (r:Rep) (S:St) (K:KW):C 107 [.imm (l.map Sess.enc),.int .i64 id,.int .i64 seq,.agg [.int .i64 r.why,.int .i64 r.number,.int .i64 r.gross]] S K=K (.tup [.imm ((jN l id seq r).1.map Sess.enc),.int .i64 (jN l id seq r).2]) S:=by
 refine (bL4 rfl ?_).eq S K
 simp only [aT3,kk,bFz,jN]
 by_cases h0:(cN l id seq).2.2=0
 ·simp only [h0,kk,not_true_eq_false,if_false]
  by_cases h1:(cN l id seq).2.1=true
  ·simp only [h1,kk,oo,if_true,List.map_nil]
  ·obtain ⟨hr,i,s,h2,h3⟩:=aBp h0
   have hb:=lV hr
   have hil:=(List.getElem?_eq_some_iff.1 h3).1
   simp only [h1,kk,if_false,h2,Int.toNat_natCast,h3]
   obtain ⟨S0,hS0⟩:∃ S0:St,S0=⟨1+1,((Tr.nil.put 0 (Blk.row 0 (1+1+1) [[V.int .i64 r.why,.int .i64 r.number,.int .i64 r.gross]])).put 1 (Blk.row 0 3 [[V.int .i64 0,.int .i64 0,.int .i64 0]])).put 1 (Blk.row 0 3 [[V.int .i64 (cN l id seq).1.why,.int .i64 (cN l id seq).1.number,.int .i64 (cN l id seq).1.gross]])⟩:=⟨_,rfl⟩
   have w0:WF S0:=by rw [hS0];exact lC (n:=2) (lC (n:=1) (m:=2) (lC (m:=1) qA (by decide) (by decide)) (by decide) (by decide)) (by decide) (by decide)
   have hg0:aI S0 0 0=.ok (3,[r.enc]):=by rw [hS0];rfl
   rw [←hS0]
   obtain ⟨v,S1,q1,x1,own⟩:=aM2 (b:=40) aI9 l w0 (by omega) (by unfold fK;omega)
   have w1:=x1.wf w0
   have xb:Ext S0 ⟨S1.next+12,S1.heap⟩:=x1.bump 12
   have own':=own.ext ((Ext.refl S1).bump 12)
   have hg1:aI ⟨S1.next+12,S1.heap⟩ 0 0=.ok (3,[r.enc]):=x1.row hg0
   have hb1:S0.next=2:=by rw [hS0]
   obtain ⟨a,ver,e1,e2,e3,e4,_,set1⟩:=own'.setK xb w0 (i:=i) (cs:=s.enc) (by simp [h3]) .i64
   obtain ⟨S2,st1,x2,n2,own2,keep2,w2⟩:=set1 1 1 (.int .i64 seq) rfl rfl (by decide)
   obtain ⟨a',ver',e1',_,_,e4',_,set2⟩:=own2.setK x2 w0 (i:=i) (cs:=splice s.enc 1 [.int .i64 seq]) (by rw [List.getElem?_set_self (by simpa using hil)];rfl) .i64
   obtain ⟨rfl,rfl⟩:a'=a∧ver'=ver:=by rw [e1] at e1';injection e1' with h1 h2;exact ⟨h1.symm,h2.symm⟩
   obtain ⟨S3,mO,_,n3,own3,keep3,w3⟩:=set2 2 3 (.agg r.enc) rfl rfl (by decide)
   have hg2:=bI hg1 (keep2 0 (by omega))
   simp only [Rep.enc] at hg1 hg2 mO
   have hfz:frzVs mQ (qD (lE S1 3) S1) [v,.int .i64 id]=.ok [.imm (l.map Sess.enc),.int .i64 id]:=by
    simp only [frzVs,own.frz (dV (fun _=>rfl) _),dQ]
   simp only [q1,kk]
   rw [show C 174 [v,.int .i64 id] S1 _=_ from (bFs l id (by omega)).frz bEz rfl hfz (by simp [ptrsVs,own.ptrs,qJ]) (.inl rfl) _]
   have e5:(0:Nat)≠a':=by omega
   have hfin:((l.map Sess.enc).set i (splice s.enc 1 [.int .i64 seq])).set i (splice (splice s.enc 1 [.int .i64 seq]) 2 r.enc)=(l.set i ⟨s.id,seq,r⟩).map Sess.enc:=by
    rw [List.set_set,List.map_set];rfl
   simp only [V.cells] at own3
   rw [hfin] at own3
   have e4'':cV 5 v (.int .i64 (i:Int))=.ok (.ptr a' ver' i 0):=e4
   simp only [h2,e4'',kk,hg1,hg2,st1,mO,oo,own3.frz (dV (fun _=>rfl) _)]
   simp
 ·simp only [h0,kk,oo,if_true,not_false_eq_true,List.map_nil]
end Go.Proofs.YtoaibmbldmckaaaGreat
end
section
namespace Go.Proofs.YtoaibmbldmckaaaGreat
open Go.AM Tryz
theorem g86 (l:List Ser) (S:St) (K:KW):C 86 [.imm (l.map Ser.enc)] S K=K (.bool (mT l)) S:=by
 refine (v86 rfl ?_).eq S K
 simp only [m86,kk,mT]
 by_cases h:8<l.length
 ·rw [if_pos (by omega),if_pos h]
 have h':¬ (8:Int)<(l.length:Int):=by omega
 simp only [h,h',kk]
 refine aY l (step:=nG) (fin:=fun _=>true) (fun i s vs S=>s=fZ l i∧vs=[.bool false,.int .i64 (i:Int)]) (fun r=>V.bool r=.bool (aO nG (fun _=>true) l none)) ?_ ?_ ⟨rfl,rfl⟩ rfl
 ·rintro i r s vs S hi ⟨rfl,rfl⟩ aP H
  have hil:=(List.getElem?_eq_some_iff.1 hi).1
  have hn:fZ l (i+1)=some r:=by simpa [fZ] using hi
  simp only [hn,nG] at H
  simp only [aK5,aK4,kk,dI hi,zC hi,Ser.enc,aQf,nU (show i<1000000000 by omega)]
  cases hna:eN r.name
  ·simp [hna] at H ⊢;exact H
  ·simp only [hna,kk,Bool.true_eq_false,if_false] at H ⊢
   cases i with
   | zero=>
    simp only [fZ,oJ,kk,Bool.false_eq_true,if_false,if_true,qZ,Bool.or_eq_true,decide_eq_true_eq] at H ⊢
    simp only [Int.natCast_zero,Int.lt_irrefl,kk,if_false]
    grind
   | succ j=>
    have hj:l[j]?=some l[j]:=List.getElem?_eq_getElem (by omega)
    have hp:fZ l (j+1)=some l[j]:=by simp [fZ,hj]
    simp only [hp,gt0,kk,wrm (show j+1<1000000000 by omega),zC hj,Ser.enc,oJ,qZ,Bool.or_eq_true,decide_eq_true_eq] at H ⊢
    grind
 ·rintro s vs S ⟨rfl,rfl⟩ aP H
  simp only [aK5,kk,Int.lt_irrefl]
  exact H
theorem bG3:gU prog 263=some none:=by kernel_rfl
theorem bP6 (name:List UInt8) (s:Ser):Fr 263 (fun a=>[.agg s.enc,.ptr a 0 0 0]) 1 [.str name] (.bool (s.name == name)) [.str name]:=by
 refine FnR.of bF5 (lv:=bE 263) (Pt.next rfl (Pt.head rfl)) rfl ?_ rfl rfl
 rw [bO2]
 simp only [aZt,kk,Ser.enc,iV]
 rfl
theorem bP7 (l:List Ser) (name:List UInt8) (hb:l.length<1000000):Fv 233 [.imm (l.map Ser.enc),.str name] (.int .i64 (iD l name)):=by
 refine bNm rfl ?_
 have h:=(bFq 263 bG3 rfl _ (bP6 name) l hb).eq_same (S:=⟨1,Tr.nil.put 0 (.row 0 1 [[.str name]])⟩) (a:=0) (Tr.get_put_sameB _ _ _ trivial)
 simp only [aVi,kk,h,iD]
theorem bBq (l:List Ser) (name:List UInt8) (hb:l.length<1000000) (S:St) (K:KW):C 233 [.imm (l.map Ser.enc),.str name] S K=K (.int .i64 (iD l name)) S:=(bP7 l name hb).eq S K
theorem bP8 (l:List Ser) (name:List UInt8) (hb:l.length<1000000) (S:St) (K:KW):C 241 [.imm (l.map Ser.enc),.str name] S K=K (.tup [.agg [.str (kH l name).1.name,.int .i64 (kH l name).1.next,.int .i64 (kH l name).1.limit,.bool (kH l name).1.shut],.bool (kH l name).2]) S:=by
 refine (bNw rfl ?_).eq S K
 simp only [aVs,kk,bBq l name hb,kH]
 rcases kT l name with h | ⟨i,s,h,h2,h3⟩
 ·simp only [h,show (-1:Int)<0 by decide,kk,oo,Ser.zero,if_true]
 ·simp only [h,show ¬ (i:Int)<0 by omega,kk,if_false,zC h2,Ser.enc,Int.toNat_natCast,h2,oo]
theorem bG4 (l:List Ser) (name:List UInt8) (S:St) (K:KW):C 236 [.imm (l.map Ser.enc),.str name] S K=K (gD (iE l name)) S:=by
 refine (bNq rfl ?_).eq S K
 simp only [aVm,kk,g86,iE,gD]
 by_cases hr:mT l=true
 ·have hb:=oK hr
  simp only [hr,kk,bBq l name (show l.length<1000000 by omega),Bool.true_eq_false,if_false]
  rcases kT l name with h | ⟨i,s,h,h2,h3⟩
  ·simp only [h,show (-1:Int)<0 by decide,kk,oo,if_true]
  ·simp only [h,show ¬ (i:Int)<0 by omega,kk,if_false,zC h2,Ser.enc,Int.toNat_natCast,h2,oo]
   cases s.shut<;>simp
 ·have hr:mT l=false:=by simpa using hr
  simp only [hr,kk,oo,if_true]
theorem bBr (l:List Ser) (hb:l.length<1000000) {S:St} (w:WF S) {K:KW} (k:∀ v S',Ext S S'→Own S S' 4 v (l.map Ser.enc)→K v S'):C 235 [.imm (l.map Ser.enc)] S K:=by
 refine bNo rfl ?_
 simp only [aVk,kk]
 cases l with
 | nil=>
  exact k .nils ⟨S.next+0,S.heap⟩ ⟨fun a b h=>h,Nat.le_refl _,fun w=>w⟩ (Own.nil _ _ _)
 | cons x l=>
  obtain ⟨v,S1,q1,x1,own⟩:=aM2 (b:=40) aQi (x::l) qA (by omega) (by unfold fK;omega)
  have q2:dL 4 40 .nils (.imm ((x::l).map Ser.enc)) none E0=.ok (.sl 0 0 4 0 (l.length+1),⟨1,Tr.nil.put 0 (.row 0 4 ((x::l).map Ser.enc))⟩):=by
   have a1:iW 4 ((x::l).map Ser.enc)=true∧((x::l).map Ser.enc).all aN=true:=eG (fun c hc=>by obtain ⟨y,_,rfl⟩:=List.mem_map.1 hc;exact aQi y)
   simp only [dL,bX]
   rw [if_pos a1]
   simp only [List.map_cons]
   have hb2:l.length+1<1000000:=hb
   simp only [List.length_cons,List.length_map,fL]
   rw [if_pos (by unfold fK;omega)]
  rw [q2]
  simp only [kk]
  have hc:((x::l).map Ser.enc).all cloVs=true:=dV (fun _=>rfl) _
  have ho:pK [0] (.sl 0 0 4 0 (l.length+1)) ⟨1,Tr.nil.put 0 (.row 0 4 ((x::l).map Ser.enc))⟩ S=.ok (.sl S.next 0 4 0 (l.length+1),⟨S.next+1,S.heap.put S.next (.row 0 4 ((x::l).map Ser.enc))⟩):=by
   have hg:(Tr.nil.put 0 (Blk.row 0 4 ((x::l).map Ser.enc))).get 0=some (.row 0 4 ((x::l).map Ser.enc)):=Tr.get_put_sameB _ _ _ trivial
   obtain ⟨z1,z2⟩:=oG (S:=⟨1,Tr.nil.put 0 (.row 0 4 ((x::l).map Ser.enc))⟩) (n:=2) hc
   simp only [List.map_cons] at hg z1 z2
   simp only [pK,V.cells,zR,iM,Nat.beq_refl,Bool.true_or,cond_true,iB,hg,z1,pC,tK,dS,z2,qG,mS,aD5,hg,z1,z2,Nat.zero_add,List.append_nil,List.any_nil,List.length_cons,List.length_nil,Nat.zero_add,Bool.not_false,Bool.and_self,List.nil_append,List.map_cons]
  rw [ho]
  simp only [kk]
  refine k _ _ (Ext.new w _) ⟨.inr ⟨S.next,0,[],by simp,Nat.le_refl _,Nat.lt_succ_self _,?_⟩,fun c hc=>by obtain ⟨y,_,rfl⟩:=List.mem_map.1 hc;exact aQi y⟩
  rw [List.append_nil];exact Tr.get_put_sameB _ _ _ trivial
theorem bP9 (l:List Ser) (name:List UInt8) (limit:Int) (S:St) (K:KW):C 175 [.imm (l.map Ser.enc),.str name,.int .i64 limit] S K=K (.tup [.imm ((fA l name limit).1.map Ser.enc),.int .i64 (fA l name limit).2]) S:=by
 refine (bMb rfl ?_).eq S K
 simp only [aUa,aFr,kk,g86,aQf]
 by_cases hr:mT l=true
 ·have hb:=oK hr
  simp only [hr,kk,bBq l name (show l.length<1000000 by omega),fA,Bool.true_eq_false,if_false]
  by_cases hn:eN name=true
  ·simp only [hn,kk,Bool.true_eq_false,if_false]
   by_cases c1:limit<1
   ·simp only [c1,kk,oo,if_true,List.map_nil,true_or]
   ·by_cases c2:1099511627776<limit
    ·simp only [c1,c2,kk,oo,if_true,if_false,List.map_nil,or_true,decide_true]
    ·simp only [c1,c2,kk,if_false,or_self,decide_false]
     by_cases c3:0≤iD l name
     ·simp only [c3,kk,oo,if_true,List.map_nil]
     ·by_cases c4:8≤l.length
      ·simp only [c3,c4,show (8:Int)≤(l.length:Int) by omega,kk,oo,if_true,if_false,List.map_nil]
      ·simp only [c3,c4,show ¬ (8:Int)≤(l.length:Int) by omega,kk,if_false]
       have hj:∀ k:Nat,k=lB (fun s:Ser=>eZ s.name name) l→aAb C (fun v0 S0=>cC S0 v0=Except.ok (.tup [.imm ((eH l (lB (fun s:Ser=>eZ s.name name) l) ⟨name,1,limit,false⟩).map Ser.enc),.int .i64 0])) (.imm (l.map Ser.enc)) (.str name) (.int .i64 limit) (.int .i64 (k:Int)) ⟨0,.nil⟩:=by
        intro k hk
        simp only [aAb]
        refine bBr l (by omega) qA fun v S1 x1 own=>?_
        have w1:=x1.wf qA
        have hkl:k≤l.length:=by rw [hk];exact vZ _ _
        obtain ⟨v2,S2,q2,w2,own2⟩:=bFv bP1 (by decide) own w1 (aQi ⟨name,1,limit,false⟩) (by simp;omega) (by simp [fK];omega) (i:=k) (by simpa using hkl)
        simp only [Ser.enc] at q2
        simp only [kk,aQh]
        rw [aO0 bFx q2]
        rw [←lW] at own2
        simp only [oo,own2.frz (dV (fun _=>rfl) _),hk]
       refine aY l (step:=eO (fun s:Ser=>eZ s.name name)) (fin:=id) (fun i k vs S=>k=i∧vs=[.int .i64 (i:Int)]∧S=⟨0,.nil⟩) (fun r=>r=lB (fun s:Ser=>eZ s.name name) l) ?_ ?_ ⟨rfl,rfl,rfl⟩ rfl
       ·rintro i s k vs S hi ⟨rfl,rfl,rfl⟩ aP H
        have hil:=(List.getElem?_eq_some_iff.1 hi).1
        simp only [eO] at H
        simp only [aFq,kk,dI hi,zC hi,Ser.enc,nU (show k<1000000000 by omega)]
        cases c:eZ s.name name<;>simp only [c,kk,if_true,if_false,Bool.false_eq_true] at H ⊢
        ·exact hj _ H
        ·exact H _ _ ⟨rfl,rfl⟩
       ·rintro k vs S ⟨rfl,rfl,rfl⟩ aP H
        simp only [aFq,kk,Int.lt_irrefl]
        exact hj _ (by simpa using H)
  ·have hn:eN name=false:=by simpa using hn
   simp only [hn,kk,oo,if_true,List.map_nil]
 ·have hr:mT l=false:=by simpa using hr
  simp only [hr,kk,oo,fA,if_true,List.map_nil]
theorem bPa (l:List Ser) (name:List UInt8) (S:St) (K:KW):C 177 [.imm (l.map Ser.enc),.str name] S K=K (.tup [.imm ((oL l name).1.map Ser.enc),.int .i64 (oL l name).2]) S:=by
 refine (bMf rfl ?_).eq S K
 simp only [aUd,kk,bG4,gD,oL]
 by_cases h0:(iE l name).2=0
 ·obtain ⟨hr,i,s,h1,_,h2,h3,_⟩:=wC h0
  have hb:=oK hr
  have hil:=(List.getElem?_eq_some_iff.1 h2).1
  have e1:(iE l name).1=(i:Int):=by rw [h1]
  simp only [h0,kk,not_true_eq_false,if_false]
  refine bBr l (by omega) qA fun v S1 x1 own=>?_
  obtain ⟨a,ver,_,_,_,e4,_,set1⟩:=own.setK x1 qA (i:=i) (cs:=s.enc) (by simp [h2]) .i64
  obtain ⟨S2,st1,x2,n2,own2,keep2,w2⟩:=set1 3 1 (.bool true) rfl rfl (by decide)
  have hfin:(l.map Ser.enc).set i (splice s.enc 3 [.bool true])=(l.set i { s with shut:=true }).map Ser.enc:=by rw [List.map_set];rfl
  simp only [V.cells] at own2
  rw [hfin] at own2
  simp only [e1,e4,kk,st1,oo,own2.frz (dV (fun _=>rfl) _),Int.toNat_natCast,h2]
 ·simp only [h0,kk,oo,if_true,not_false_eq_true,List.map_nil]
theorem bPb (l:List Ser) (name:List UInt8) (S:St) (K:KW):C 271 [.imm (l.map Ser.enc),.str name] S K=K (.tup [.imm ((dE l name).1.map Ser.enc),.int .i64 (dE l name).2.1,.int .i64 (dE l name).2.2]) S:=by
 refine (bOa rfl ?_).eq S K
 simp only [aW6,kk,bG4,gD,dE]
 by_cases h0:(iE l name).2=0
 ·obtain ⟨hr,i,s,h1,_,h2,h3,_⟩:=wC h0
  have hb:=oK hr
  have hil:=(List.getElem?_eq_some_iff.1 h2).1
  have e1:(iE l name).1=(i:Int):=by rw [h1]
  simp only [h0,kk,not_true_eq_false,if_false,e1,zC h2,Ser.enc,Int.toNat_natCast,h2]
  by_cases c:s.limit<s.next
  ·simp only [c,kk,oo,if_true,List.map_nil]
  ·simp only [c,kk,if_false]
   refine bBr l (by omega) qA fun v S1 x1 own=>?_
   obtain ⟨a,ver,_,_,_,e4,hat,set1⟩:=own.setK x1 qA (i:=i) (cs:=s.enc) (by simp [h2]) .i64
   obtain ⟨S2,st1,x2,n2,own2,keep2,w2⟩:=set1 1 1 (.int .i64 (wr .i64 (s.next+1))) rfl rfl (by decide)
   have hld:=hat.load none 1
   have hfin:(l.map Ser.enc).set i (splice s.enc 1 [.int .i64 (wr .i64 (s.next+1))])=(l.set i { s with next:=wr .i64 (s.next+1) }).map Ser.enc:=by rw [List.map_set];rfl
   simp only [V.cells] at own2
   rw [hfin] at own2
   simp only [adv,kk] at hld
   simp only [e4,kk,hld,Ser.enc,st1,oo,own2.frz (dV (fun _=>rfl) _)]
 ·simp only [h0,kk,oo,if_true,not_false_eq_true,List.map_nil]
theorem zne {S:St} (h:0<S.next):((0:Nat)=S.next)=False:=by simp;omega
theorem bPc (l:List Rate) (cat:List UInt8) (d:Date) (S:St) (K:KW):C 278 [.imm (l.map Rate.enc),.str cat,.agg [.int .i64 d.y,.int .i64 d.m,.int .i64 d.d]] S K=K (.tup [.int .i64 (iF l cat d).1,.bool (iF l cat d).2]) S:=by
 refine (bOc rfl ?_).eq S K
 simp only [aW8,kk,g85,zX,iF]
 by_cases hr:fY l=true
 ·have hb:=uC hr
  simp only [hr,kk,Bool.true_eq_false,if_false]
  cases hd:d.right
  ·simp only [hd,kk,oo,if_true]
  simp only [hd,kk,Bool.true_eq_false,if_false]
  refine aY l (step:=jF cat d) (fin:=id) (fun i s vs S=>vs=[.int .i64 s.1,.bool s.2,.int .i64 (i:Int)]∧aI S 0 0=.ok (3,[d.enc])∧0<S.next) (fun r=>r=aO (jF cat d) id l (0,false)) ?_ ?_ (s:=(0,false)) ⟨rfl,by simp only [kk];rfl,Nat.zero_lt_one⟩ rfl
  ·rintro i r ⟨bp,ok⟩ vs S hi ⟨rfl,hg,h0⟩ aP H
   have hil:=(List.getElem?_eq_some_iff.1 hi).1
   simp only [jF] at H
   simp only [aGc,aGb,kk,dI hi,aGi hi,Rate.enc,nU (show i<1000000000 by omega),iV,zne h0,gm,hg,Date.enc,aQd]
   have hg':∀ b b':Blk,aI ⟨S.next+1,(S.heap.put S.next b).put S.next b'⟩ 0 0=.ok (3,[d.enc]):=fun b b'=>by simp only [iV,kk,zne h0,gm,hg]
   cases c1:(r.cat == cat)<;>simp only [c1,kk,Bool.false_eq_true,false_and,if_false,true_and] at H ⊢
   ·exact H _ _ ⟨rfl,hg' _ _,Nat.succ_pos _⟩
   ·cases c2:d.before r.day<;>simp only [c2,kk,if_true,if_false,Bool.true_eq_false] at H ⊢<;>exact H _ _ ⟨rfl,hg' _ _,Nat.succ_pos _⟩
  ·rintro ⟨bp,ok⟩ vs S ⟨rfl,hg,h0⟩ aP H
   have H:(bp,ok)=aO (jF cat d) id l (0,false):=H
   simp only [aGc,kk,Int.lt_irrefl,oo,←H]
 ·have hr:fY l=false:=by simpa using hr
  simp only [hr,kk,oo,if_true]
theorem bPd:apT prog 24=some (5,48):=by kernel_rfl
theorem bG5:uU 237=some (.spec ((Sp.ins 24).run prog)):=by kernel_rfl
theorem aYj (x:Rate):x.enc.length=5∧aN x.enc=true:=⟨rfl,rfl⟩
theorem Date.ext_iff (a b:Date):(a=b)=((a.y=b.y∧a.m=b.m)∧a.d=b.d):=by
 obtain ⟨_,_,_⟩:=a;obtain ⟨_,_,_⟩:=b;simp [and_assoc]
theorem aXp {P:Program} {T:TypeId} {α:Type} {enc:α→List V} {n b:Nat} (hT:apT P T=some (n,b)) (hn:1<n) (hl:∀ x,(enc x).length=n∧aN (enc x)=true) (l:List α) {S:St} (w:WF S) {ka kb m:Nat} (hk:S.next≤ka) (hm:ka<m) (hkb:S.next≤kb) (hmb:kb<m) (hne:ka≠kb)
  (h1:(l.length+1)*b≤35184372088832) (h2:l.length+1<fK) (x:α) {i:Nat} (hi:i≤l.length):
  ∃ v S1 v' S',dL n b .nils (.imm (l.map enc)) (some ka) ⟨m,S.heap⟩=.ok (v,S1)∧(∀ y,y<S.next→S1.heap.get y=S.heap.get y)∧gC P T v (.int .i64 (i:Int)) (.sl kb 0 n 0 1) ⟨S1.next,S1.heap.put kb (.row 0 n [enc x])⟩=.ok (v',S')∧Own E0 S' n v' ((eH l i x).map enc):=by
 have hx:Ext S ⟨m,S.heap⟩:=⟨fun a b h=>h,by show S.next≤m;omega,fun w a b h=>by have:=w a b h;show a<m;omega⟩
 have hnone:∀ k,S.next≤k→S.heap.get k=none:=by
  intro k hk
  cases hq:S.heap.get k with
  | none=>rfl
  | some b=>have:=w k b hq;omega
 have hc:∀ cs,cs∈l.map enc→cs.length=n∧aN cs=true:=fun cs hc=>by obtain ⟨x,_,rfl⟩:=List.mem_map.1 hc;exact hl x
 obtain ⟨a1,a2⟩:=eG hc
 have hwm:WF ⟨m,S.heap⟩:=hx.wf w
 have key:∃ v S1,dL n b .nils (.imm (l.map enc)) (some ka) ⟨m,S.heap⟩=.ok (v,S1)∧WF S1∧S1.next=m∧(∀ y,y<S.next→S1.heap.get y=S.heap.get y)∧S1.heap.get kb=none∧(∀ a ver k,v=.sl a ver n 0 k→a=ka)∧Own E0 S1 n v (l.map enc):=by
  cases l with
  | nil=>exact ⟨.nils,⟨m,S.heap⟩,rfl,hwm,rfl,fun _ _=>rfl,hnone kb hkb,(fun _ _ _ h=>by cases h),Own.nil _ _ _⟩
  | cons y l=>
   refine ⟨.sl ka 0 n 0 (l.length+1),⟨m,S.heap.put ka (.row 0 n ((y::l).map enc))⟩,?_,lC hwm hm (Nat.le_refl _),rfl,fun z hz=>Tr.get_put_neB _ _ _ _ trivial (by omega),?_,fun _ _ _ h=>(by cases h;rfl),⟨.inr ⟨ka,0,[],by simp,Nat.zero_le _,hm,?_⟩,hc⟩⟩
   ·simp only [dL,bX]
    rw [if_pos ⟨a1,a2⟩]
    simp only [List.map_cons,List.length_cons,List.length_map,lQ] at h1 h2 ⊢
    have hb2:(l.length+1)*b≤(l.length+1+1)*b:=Nat.mul_le_mul_right _ (by omega)
    rw [if_pos ⟨by omega,by omega⟩]
   ·rw [Tr.get_put_neB _ _ _ _ trivial (Ne.symm hne)];exact hnone kb hkb
   ·rw [List.append_nil];exact Tr.get_put_sameB _ _ _ trivial
 obtain ⟨v,S1,q1,w1,n1,q2,q3,q4,own⟩:=key
 have x1:Ext S1 ⟨S1.next,S1.heap.put kb (.row 0 n [enc x])⟩:=⟨fun a c hc=>by
  show (S1.heap.put kb _).get a=some c
  rw [Tr.get_put_neB _ _ _ _ trivial (fun e=>by rw [e,q3] at hc;cases hc)];exact hc,Nat.le_refl _,fun w=>lC w (by omega) (Nat.le_refl _)⟩
 obtain ⟨v',S',p1,_,p3⟩:=(own.ext x1).insert hT hn (aCz (x1.wf w1)) qA (bx:=kb) (c:=enc x) (aS _ _ _ _ _ _) (fun a ver k hv=>by rw [q4 a ver k hv];exact hne) (hl x) (by simpa using h1) (by simpa using h2) (i:=i) (by simpa using hi)
 rw [←lW] at p3
 exact ⟨v,S1,v',S',q1,q2,p1,p3⟩
theorem bPe (l:List Rate) (r:Rate) (S:St) (K:KW):C 178 [.imm (l.map Rate.enc),.agg [.str r.cat,.int .i64 r.day.y,.int .i64 r.day.m,.int .i64 r.day.d,.int .i64 r.bp]] S K=K (.tup [.imm ((gV l r).1.map Rate.enc),.int .i64 (gV l r).2]) S:=by
 refine (bMh rfl ?_).eq S K
 simp only [aUf,kk,g85,gV]
 by_cases hr:fY l=true
 ·have hb:=uC hr
  simp only [hr,kk,Bool.true_eq_false,if_false,bFo]
  by_cases h0:tZ r=0
  ·simp only [h0,kk,not_true_eq_false,if_false]
   refine aY l (step:=kI r) (fin:=some) (fun i k vs S=>vs=[.nils,.int .i64 0,.int .i64 (k:Int),.int .i64 (i:Int)]∧aI S 0 0=.ok (5,[r.enc])∧0<S.next∧WF S∧k≤i) (fun q=>q=aO (kI r) some l 0) ?_ ?_ (s:=0) ⟨rfl,by simp only [kk];rfl,Nat.zero_lt_one,lC qA (by decide) (by decide),Nat.le_refl _⟩ rfl
   ·rintro i x k vs S hi ⟨rfl,hg,hp,w,hki⟩ aP H
    have hil:=(List.getElem?_eq_some_iff.1 hi).1
    simp only [kI,Date.ext_iff,kk] at H
    have hg':∀ b b':Blk,aI ⟨S.next+1,(S.heap.put S.next b).put S.next b'⟩ 0 0=.ok (5,[r.enc]):=fun b b'=>by simp only [iV,kk,zne hp,gm,hg]
    have hw':∀ b b':Blk,WF ⟨S.next+1,(S.heap.put S.next b).put S.next b'⟩:=fun b b'=>lC (lC w (Nat.lt_succ_self _) (Nat.le_succ _)) (Nat.lt_succ_self _) (Nat.le_refl _)
    simp only [aFt,aFs,kk,dI hi,aGi hi,Rate.enc,nU (show i<1000000000 by omega),nU (show k<1000000000 by omega),iV,zne hp,gm,hg,bFp]
    cases c1:(x.cat == r.cat)<;>simp only [c1,kk,Bool.false_eq_true,false_and,if_false,true_and,Bool.and_eq_true,decide_eq_true_eq] at H ⊢
    ·cases c3:fO x r<;>simp only [c3,kk,if_true,if_false,Bool.false_eq_true] at H ⊢<;>exact H _ _ ⟨rfl,hg' _ _,Nat.succ_pos _,hw' _ _,by omega⟩
    ·by_cases c2:(x.day.y=r.day.y∧x.day.m=r.day.m)∧x.day.d=r.day.d<;>simp only [c2,kk,if_true,if_false] at H ⊢
     ·have H':aO (kI r) some l 0=none:=H.symm
      simp only [oo,H',List.map_nil]
     ·cases c3:fO x r<;>simp only [c3,kk,if_true,if_false,Bool.false_eq_true] at H ⊢<;>exact H _ _ ⟨rfl,hg' _ _,Nat.succ_pos _,hw' _ _,by omega⟩
   ·rintro k vs S ⟨rfl,hg,hp,w,hki⟩ aP H
    have H':aO (kI r) some l 0=some k:=H.symm
    simp only [aFt,kk,Int.lt_irrefl,H']
    by_cases c:24≤l.length
    ·simp only [c,show (24:Int)≤(l.length:Int) by omega,kk,oo,if_true,List.map_nil]
    ·obtain ⟨v,S1,v',S',q1,q2,q3,own⟩:=aXp bPd (by decide) aYj l w (ka:=S.next+1) (kb:=S.next+4) (m:=S.next+8) (by omega) (by omega) (by omega) (by omega) (by omega) (by omega) (by unfold fK;omega) r hki
     have hg1:aI S1 0 0=.ok (5,[r.enc]):=bI hg (q2 0 hp)
     simp only [Rate.enc] at hg hg1 q3
     simp only [c,show ¬ (24:Int)≤(l.length:Int) by omega,kk,gm,hg,q1,hg1,bFu,if_false]
     rw [aO0 bG5 q3]
     simp only [oo,own.frz (dV (fun _=>rfl) _),c,if_false]
  ·simp only [h0,kk,oo,if_true,not_false_eq_true,List.map_nil]
 ·have hr:fY l=false:=by simpa using hr
  simp only [hr,kk,oo,if_true,List.map_nil]
end Go.Proofs.YtoaibmbldmckaaaGreat
end
section
namespace Go.AM
theorem aXq (n:Nat) (z:List V) (parts:List (Nat×V)) (fr:Option Nat) (S:St) (hn:n≤1000):aR n z 2 parts fr S=(match sL n [z,z] parts with
  | .error e=>.error e
  | .ok elems=>match aJ fr S (.row 0 n elems) with
   | .error e=>.error e
   | .ok (a,S')=>.ok (.sl a 0 n 0 2,S')):=by
 unfold aR
 rw [if_pos (by omega)]
 rfl
theorem bG6 (z:List V) (parts:List (Nat×V)) (fr:Option Nat) (S:St):type_of% (aXq 2 z parts fr S (by decide)):=aXq 2 z parts fr S (by decide)
theorem Own.bump {S0 S:St} {n:Nat} {v:V} {es:List (List V)} (h:Own S0 S n v es) (c:Nat):Own S0 ⟨S.next+c,S.heap⟩ n v es:=h.ext ((Ext.refl S).bump c)
theorem aQj {n b:Nat} {S:St} {v:V} {es:List (List V)} (h:Own E0 S n v es) (w:WF S) {cs:List (List V)} (hc:∀ c,c∈cs→c.length=n∧aN c=true) (hne:cs≠[]) (h1:(es.length+cs.length)*b≤35184372088832) (h2:es.length+cs.length<fK):
  ∃ v' S',dL n b v (.sl S.next 0 n 0 cs.length) none ⟨S.next+1,S.heap.put S.next (.row 0 n cs)⟩=.ok (v',S')∧Own E0 S' n v' (es++cs)∧WF S'∧∀ y,y<S.next→(∀ a ver m,v=.sl a ver n 0 m→y≠a)→S'.heap.get y=S.heap.get y:=by
 have x:Ext S ⟨S.next+1,S.heap.put S.next (.row 0 n cs)⟩:=Ext.new w _
 have hu:bX ⟨S.next+1,S.heap.put S.next (.row 0 n cs)⟩ (.sl S.next 0 n 0 cs.length)=.ok cs:=by
  have hb:Nat.ble (0+cs.length) cs.length=true:=Nat.ble_eq_true_of_le (by omega)
  simp only [bX,aS,hb,cond_true,List.drop_zero,List.take_length]
 obtain ⟨v',S',q1,q2,_,q3,q4⟩:=(h.ext x).pushK (b:=b) (aCz (x.wf w)) qA hu hc hne h1 h2
 refine ⟨v',S',q1,q3,q2.wf qA,fun y hy hya=>?_⟩
 rw [q4 y (by show y<S.next+1;omega) hya]
 exact Tr.get_put_neB _ _ _ _ trivial (by omega)
end Go.AM
namespace Go.Proofs.YtoaibmbldmckaaaGreat
open Go.AM Tryz
set_option linter.unusedVariables false
set_option linter.unusedSimpArgs false
set_option maxRecDepth 100000
def Total.enc (t:Total):List V:=[.int .i64 t.net,.int .i64 t.tax,.int .i64 t.gross,.imm (t.parts.map Part.enc)]
def aO1 (t:Total):Prop:=t.parts.length≤12∧∀ q∈t.parts,q.cat.length≤1000000
theorem aAh {P:Program} {t:TypeId} {a b:List UInt8} (h:a.length+b.length<2000000):aG P .add t (.str a) (.str b)=.ok (.str (a++b)):=by
 have:Nat.blt (a.length+b.length) fK=true:=by rw [Nat.blt_eq];unfold fK;omega
 simp only [aG,yF,this,cond_true]
theorem aQk (x:Bal):x.enc.length=2∧aN x.enc=true:=⟨rfl,rfl⟩
theorem aQl (x:Part):x.enc.length=4∧aN x.enc=true:=⟨rfl,rfl⟩
theorem bG7 (t:Total) (hf:aO1 t) (S:St) (K:KW):C 157 [.agg [.int .i64 t.net,.int .i64 t.tax,.int .i64 t.gross,.imm (t.parts.map Part.enc)]] S K=K (.tup [.imm ((dX t).1.map Bal.enc),.int .i64 (dX t).2]) S:=by
 refine (bLo rfl ?_).eq S K
 simp only [aTn,kk,bFt]
 have hpl:=hf.1
 refine aY t.parts (step:=gW) (fin:=fun l=>(l,0)) (fun i s vs S=>∃ v,vs=[.nils,.int .i64 0,v,.int .i64 (i:Int)]∧Own E0 S 2 v (s.map Bal.enc)∧WF S∧s.length=1+2*i) (fun r=>r=dX t) ?_ ?_ (s:=[⟨[111,119,101,100],t.gross⟩]) ⟨_,rfl,⟨.inr ⟨1,0,[],rfl,Nat.zero_le _,Nat.lt_succ_self 1,rfl⟩,?_⟩,lC (lC (m:=1) qA (by decide) (by decide)) (by decide) (by decide),rfl⟩ rfl
 ·rintro i p s vs S hi ⟨v,rfl,own,w,hsl⟩ aP H
  have hil:=(List.getElem?_eq_some_iff.1 hi).1
  have hcat:=hf.2 p (List.mem_of_getElem? hi)
  simp only [gW,kk] at H
  have e1:iG.length+p.cat.length<2000000:=by simp only [iG,List.length_cons,List.length_nil];omega
  have e2:iH.length+p.cat.length<2000000:=by simp only [iH,List.length_cons,List.length_nil];omega
  have c1:=aAh (P:=prog) (t:=9) e1
  have c2:=aAh (P:=prog) (t:=9) e2
  simp only [iG,iH] at c1 c2
  simp only [aFh,kk,dI hi,uF hi,Part.enc,nU (show i<1000000000 by omega),bBn,gD,iV,c1,c2,bG6]
  by_cases h1:(jX 0 p.net).2=0
  ·by_cases h2:(jX 0 p.tax).2=0
   ·simp only [h1,h2,kk,not_true_eq_false,if_false] at H ⊢
    have w1:WF ⟨S.next+1,(S.heap.put S.next (.row 0 4 [[V.str [],.int .i64 0,.int .i64 0,.int .i64 0]])).put S.next (.row 0 4 [p.enc])⟩:=lC (lC w (Nat.lt_succ_self _) (Nat.le_succ _)) (Nat.lt_succ_self _) (Nat.le_refl _)
    have x1:Ext S ⟨S.next+1,(S.heap.put S.next (.row 0 4 [[V.str [],.int .i64 0,.int .i64 0,.int .i64 0]])).put S.next (.row 0 4 [p.enc])⟩:=Ext.var w 4 _ _
    obtain ⟨v',S',q1,q2,q3,_⟩:=aQj (b:=24) (own.ext x1) w1 (cs:=[Bal.enc ⟨iG++p.cat,(jX 0 p.net).1⟩,Bal.enc ⟨iH++p.cat,(jX 0 p.tax).1⟩]) (fun c hc=>by
     rcases List.mem_cons.1 hc with rfl | hc
     ·exact aQk _
     ·rcases List.mem_cons.1 hc with rfl | hc
      ·exact aQk _
      ·cases hc) (by simp) (by simp;omega) (by simp [fK];omega)
    simp only [Part.enc,Bal.enc,iG,iH,kk] at q1
    simp only [q1,kk]
    exact H _ _ ⟨_,rfl,by rw [List.map_append];exact q2,q3,by rw [List.length_append,hsl];simp;omega⟩
   ·simp only [h1,h2,kk,not_true_eq_false,not_false_eq_true,if_false,if_true] at H ⊢
    simp only [oo,←H,List.map_nil]
  ·simp only [h1,kk,not_false_eq_true,if_true] at H ⊢
   simp only [oo,←H,List.map_nil]
 ·rintro s vs S ⟨v,rfl,own,w,_⟩ aP H
  have H':dX t=(s,0):=H.symm
  simp only [aFh,kk,Int.lt_irrefl,oo,own.frz (dV (fun _=>rfl) _),H']
 ·intro c hc;simp at hc;subst hc;exact ⟨rfl,rfl⟩
theorem bG8 (l:List Bal) (hb:l.length<1000000):Fv 220 [.imm (l.map Bal.enc)] (.bool (pZ l)):=by
 refine bN9 rfl ?_
 simp only [aV5]
 refine aY (l.drop 1) (step:=mG) (fin:=fun _=>true) (fun j s vs S=>s=l[j]?∧vs=[.bool false,.int .i64 ((j+1:Nat):Int)]) (fun r=>V.bool r=.bool (pZ l)) ?_ ?_ (s:=l[0]?) ⟨rfl,rfl⟩ rfl
 ·rintro j b s vs S hi ⟨rfl,rfl⟩ aP H
  rw [List.getElem?_drop,Nat.add_comm] at hi
  have hil:=(List.getElem?_eq_some_iff.1 hi).1
  have hj:l[j]?=some l[j]:=List.getElem?_eq_getElem (by omega)
  simp only [hj,mG,hi] at H
  simp only [aFy,kk,dI hi,aBw hi,aBw hj,Bal.enc,wrm (show j+1<1000000000 by omega),nU (show j+1<1000000000 by omega)]
  cases c:eZ l[j].acc b.acc<;>simp only [c,kk,if_true,if_false,Bool.false_eq_true] at H ⊢
  ·exact H
  ·exact H _ _ rfl
 ·rintro s vs S ⟨rfl,rfl⟩ aP H
  have hn:¬ (((l.drop 1).length+1:Nat):Int)<(l.length:Int):=by rw [List.length_drop];omega
  simp only [aFy,kk,hn]
  exact H
theorem bPf (l:List Bal) (hb:l.length<1000000) (S:St) (K:KW):C 220 [.imm (l.map Bal.enc)] S K=K (.bool (pZ l)) S:=(bG8 l hb).eq S K
theorem bPg:apT prog 27=some (2,24):=by kernel_rfl
theorem bG9:uU 221=some (.spec ((Sp.ins 27).run prog)):=by kernel_rfl
theorem bBs (book l:List Bal) (hbb:book.length+l.length<1000000) (S:St) (K:KW):C 158 [.imm (book.map Bal.enc),.imm (l.map Bal.enc)] S K=K (.tup [.imm ((cD book l).1.map Bal.enc),.int .i64 (cD book l).2]) S:=by
 refine (bLq rfl ?_).eq S K
 simp only [aTp,kk,bPf book (show book.length<1000000 by omega),cD]
 by_cases hr:pZ book=true
 ·simp only [hr,kk,Bool.true_eq_false,if_false]
  obtain ⟨v0,S0,q0,x0,own0⟩:=aQg (b:=24) aQk book qA (by omega) (by unfold fK;omega)
  simp only [q0,kk]
  refine aY l (step:=bT) (fin:=fun l=>(l,0)) (fun i s vs S=>∃ v,vs=[.nils,.int .i64 0,v,.int .i64 (i:Int)]∧Own E0 S 2 v (s.map Bal.enc)∧WF S∧s.length≤book.length+i) (fun r=>r=aO bT (fun l=>(l,0)) l book) ?_ ?_ (s:=book) ⟨_,rfl,own0,x0.wf qA,Nat.le_refl _⟩ rfl
  ·rintro i x s vs S hi ⟨v,rfl,own,w,hsl⟩ aP H
   have hil:=(List.getElem?_eq_some_iff.1 hi).1
   rw [pL] at H
   simp only [aFj,kk,dI hi,aBw hi,Bal.enc]
   obtain ⟨S1,hS1⟩:∃ S1:St,S1=⟨S.next+1,(S.heap.put S.next (.row 0 2 [[V.str [],.int .i64 0]])).put S.next (.row 0 2 [[.str x.acc,.int .i64 x.amount]])⟩:=⟨_,rfl⟩
   have x1:Ext S S1:=by rw [hS1];exact Ext.var w 2 _ _
   have w1:=x1.wf w
   have hg1:aI S1 S.next 0=.ok (2,[x.enc]):=by rw [hS1];exact aS _ _ _ _ _ _
   have own1:=own.ext x1
   have hlt1:S.next<S1.next:=by rw [hS1];exact Nat.lt_succ_self _
   rw [←hS1]
   have hva:∀ a ver m,v=.sl a ver 2 0 m→S.next≠a:=by
    intro a ver m hv
    rcases own.is with ⟨rfl,_⟩ | ⟨a',ver',tl,rfl,_,hlt,_⟩
    ·cases hv
    ·cases hv;omega
   have hlen:s.length<1000000:=by omega
   have hple:=nH s x.acc
   have hj1:∀ (v':V) (S':St),Own E0 S' 2 v' ((cP s x.acc).map Bal.enc)→WF S'→aI S' S.next 0=.ok (2,[x.enc])→aA8 C (fun v0 S0=>cC S0 v0=.ok (.tup [.imm ((aO bT (fun l=>(l,0)) l book).1.map Bal.enc),.int .i64 (aO bT (fun l=>(l,0)) l book).2])) aP .nils (.int .i64 0) v' (.ptr S.next 0 0 0) (.int .i64 (bV s x.acc:Int)) (.imm (l.map Bal.enc)) (.int .i64 (l.length:Int)) (.int .i64 (i:Int)) S':=by
    intro v' S' own' w' hg'
    obtain ⟨b,hb⟩:=gQ s x.acc
    obtain ⟨a,ver,_,_,_,e4,hat,set1⟩:=(own'.bump 13).setK (aCz (w'.bump 13)) qA (i:=bV s x.acc) (cs:=b.enc) (by simp [hb]) .i64
    obtain ⟨S2,st1,x2,n2,own2,keep2,w2⟩:=set1 1 1 (.int .i64 (cM b.amount x.amount).1) rfl rfl (by decide)
    have hld:=hat.load none 1
    simp only [adv,kk,Bal.enc] at hld
    have hfin:((cP s x.acc).map Bal.enc).set (bV s x.acc) (splice b.enc 1 [.int .i64 (cM b.amount x.amount).1])=((cP s x.acc).set (bV s x.acc) ⟨b.acc,(cM b.amount x.amount).1⟩).map Bal.enc:=by rw [List.map_set];rfl
    simp only [V.cells] at own2
    rw [hfin] at own2
    simp only [hb,Option.map_some,Option.getD_some,kk] at H
    have hg2:aI ⟨S'.next+13,S'.heap⟩ S.next 0=.ok (2,[x.enc]):=hg'
    simp only [Bal.enc] at hg2
    simp only [aA8,e4,kk,hld,hg2,aQe,gD,nU (show i<1000000000 by omega),st1]
    by_cases h0:(cM b.amount x.amount).2=0
    ·simp only [h0,kk,not_true_eq_false,if_false] at H ⊢
     exact H _ _ ⟨_,rfl,own2,w2 (w'.bump 13),by rw [List.length_set];have:=yY s x.acc;omega⟩
    ·simp only [h0,kk,not_false_eq_true,if_true] at H ⊢
     simp only [oo,←H,List.map_nil]
   have hj2:∀ (S':St),Own E0 S' 2 v (s.map Bal.enc)→WF S'→aI S' S.next 0=.ok (2,[x.enc])→S.next<S'.next→vT C (fun v0 S0=>cC S0 v0=.ok (.tup [.imm ((aO bT (fun l=>(l,0)) l book).1.map Bal.enc),.int .i64 (aO bT (fun l=>(l,0)) l book).2])) aP .nils (.int .i64 0) v (.ptr S.next 0 0 0) (.int .i64 (bV s x.acc:Int)) (.imm (l.map Bal.enc)) (.int .i64 (l.length:Int)) (.int .i64 (i:Int)) (.bool (kJ s x.acc)) S':=by
    intro S' own' w' hg' hlt'
    cases hm:kJ s x.acc
    ·simp only [vT,kk]
     exact hj1 v S' (by rw [show cP s x.acc=s by simp [cP,hm]];exact own') w' hg'
    ·obtain ⟨v2,S2,q1,w2,own2,keep2⟩:=aYi bPg (by decide) own' w' (aQk ⟨x.acc,0⟩) (by simp;omega) (by simp [fK];omega) (i:=bV s x.acc) (by simpa using hple)
     rw [←lW] at own2
     have hg2:=bI hg' (keep2 S.next hlt' hva)
     simp only [Bal.enc] at hg' q1
     simp only [vT,kk,hg',bFt]
     rw [aO0 bG9 q1]
     exact hj1 v2 S2 (by rw [show cP s x.acc=eH s (bV s x.acc) ⟨x.acc,0⟩ by simp [cP,hm]];exact own2) w2 hg2
   have hj0:∀ (S':St),Own E0 S' 2 v (s.map Bal.enc)→WF S'→aI S' S.next 0=.ok (2,[x.enc])→S.next<S'.next→aA9 C (fun v0 S0=>cC S0 v0=.ok (.tup [.imm ((aO bT (fun l=>(l,0)) l book).1.map Bal.enc),.int .i64 (aO bT (fun l=>(l,0)) l book).2])) aP .nils (.int .i64 0) v (.ptr S.next 0 0 0) (.int .i64 (bV s x.acc:Int)) (.imm (l.map Bal.enc)) (.int .i64 (l.length:Int)) (.int .i64 (i:Int)) S':=by
    intro S' own' w' hg' hlt'
    have h2:=hj2 ⟨S'.next+14,S'.heap⟩ (own'.bump 14) (w'.bump 14) hg' (by show S.next<S'.next+14;omega)
    have hgb:aI ⟨S'.next+14,S'.heap⟩ S.next 0=.ok (2,[x.enc]):=hg'
    simp only [Bal.enc] at hgb
    simp only [aA9,own'.sl.lenI,kk]
    by_cases hk:bV s x.acc=s.length
    ·have hm:kJ s x.acc=true:=by unfold kJ;rw [hk,List.getElem?_eq_none (Nat.le_refl _)]
     rw [hm] at h2
     simp only [hk,kk,eq_self,if_true]
     rw [hk] at h2
     exact h2
    ·have hlt:bV s x.acc<s.length:=by omega
     have hb:s[bV s x.acc]?=some s[bV s x.acc]:=List.getElem?_eq_getElem hlt
     have hm:kJ s x.acc=!((s[bV s x.acc]).acc == x.acc):=by unfold kJ;rw [hb]
     rw [hm] at h2
     obtain ⟨p,hp,hat,_,_⟩:=(own'.bump 14).sl.elem hb
     have hld:=hat.load none 0
     simp only [Bal.enc,kk] at hld
     simp only [show ¬ ((bV s x.acc:Nat):Int)=(s.length:Int) by omega,kk,if_false,hp,hat.advW,hld,hgb]
     exact h2
   refine aY s (step:=eO (fun b:Bal=>eZ b.acc x.acc)) (fin:=id) (fun k n vs S'=>n=k∧vs=[.int .i64 (k:Int)]∧S'.heap=S1.heap∧S1.next≤S'.next) (fun r=>r=bV s x.acc) ?_ ?_ ⟨rfl,rfl,rfl,Nat.le_refl _⟩ rfl
   ·rintro k b n vs S' hk ⟨rfl,rfl,hh,hn⟩ again' H'
    have hkl:=(List.getElem?_eq_some_iff.1 hk).1
    have hown:∀ c,Own E0 ⟨S'.next+c,S'.heap⟩ 2 v (s.map Bal.enc):=fun c=>own1.same (by show S1.next≤S'.next+c;omega) (fun a _=>by show S'.heap.get a=_;rw [hh])
    have hw:∀ c,WF ⟨S'.next+c,S'.heap⟩:=fun c a b hb=>by
     have hb:S'.heap.get a=some b:=hb
     rw [hh] at hb;have:=w1 a b hb;show a<S'.next+c;omega
    have hgr:∀ c,aI ⟨S'.next+c,S'.heap⟩ S.next 0=.ok (2,[x.enc]):=fun c=>by
     show aI ⟨S'.next,S'.heap⟩ S.next 0=_
     rw [hh];exact hg1
    have hgb:=hgr 14
    simp only [Bal.enc] at hgb
    obtain ⟨p,hp,hat,_,_⟩:=(hown 14).sl.elem hk
    have hld:=hat.load none 0
    simp only [Bal.enc,kk] at hld
    simp only [eO] at H'
    simp only [aFi,kk,own1.sl.lenI,dI hk,hp,hat.advW,hld,hgb,nU (show n<1000000000 by omega)]
    cases c:eZ b.acc x.acc<;>simp only [c,kk,if_true,if_false,Bool.false_eq_true] at H' ⊢
    ·have:=hj0 ⟨S'.next+14,S'.heap⟩ (hown 14) (hw 14) (hgr 14) (by show S.next<S'.next+14;omega)
     rw [←H'] at this
     exact this
    ·exact H' _ _ ⟨rfl,hh,by show S1.next≤S'.next+14;omega⟩
   ·rintro n vs S' ⟨rfl,rfl,hh,hn⟩ again' H'
    have hown:∀ c,Own E0 ⟨S'.next+c,S'.heap⟩ 2 v (s.map Bal.enc):=fun c=>own1.same (by show S1.next≤S'.next+c;omega) (fun a _=>by show S'.heap.get a=_;rw [hh])
    have hw:∀ c,WF ⟨S'.next+c,S'.heap⟩:=fun c a b hb=>by
     have hb:S'.heap.get a=some b:=hb
     rw [hh] at hb;have:=w1 a b hb;show a<S'.next+c;omega
    have hgr:∀ c,aI ⟨S'.next+c,S'.heap⟩ S.next 0=.ok (2,[x.enc]):=fun c=>by
     show aI ⟨S'.next,S'.heap⟩ S.next 0=_
     rw [hh];exact hg1
    have H':s.length=bV s x.acc:=H'
    simp only [aFi,kk,own1.sl.lenI,Int.lt_irrefl]
    have:=hj0 ⟨S'.next+14,S'.heap⟩ (hown 14) (hw 14) (hgr 14) (by show S.next<S'.next+14;omega)
    rw [←H'] at this
    exact this
  ·rintro s vs S ⟨v,rfl,own,w,_⟩ aP H
   have H':aO bT (fun l=>(l,0)) l book=(s,0):=H.symm
   simp only [aFj,kk,Int.lt_irrefl,oo,own.frz (dV (fun _=>rfl) _),H']
 ·have hr:pZ book=false:=by simpa using hr
  simp only [hr,kk,oo,if_true,List.map_nil]
end Go.Proofs.YtoaibmbldmckaaaGreat
end
section
namespace Go.Proofs.YtoaibmbldmckaaaGreat
open Go.AM Tryz
theorem bPh (tab:List Rate) (d:Date) (l:Line) (S:St) (K:KW):C 268 [.imm (tab.map Rate.enc),.agg [.int .i64 d.y,.int .i64 d.m,.int .i64 d.d],.agg [.str l.text,.str l.cat,.int .i64 l.count,.int .i64 l.price]] S K=K (aQ9 (fF tab d l)) S:=by
 refine (bO4 rfl ?_).eq S K
 simp only [aW0,aG8,kk,iV,aQf,bPc,bOs,fF,aQ9,gD]
 by_cases c1:64<l.text.length
 ·simp only [c1,show (64:Int)<(l.text.length:Int) by omega,kk,oo,if_true]
 simp only [c1,show ¬ (64:Int)<(l.text.length:Int) by omega,kk,if_false]
 cases c2:eN l.cat
 ·simp only [c2,kk,oo,if_true]
 simp only [c2,kk,Bool.true_eq_false,if_false]
 by_cases c3:l.count<1
 ·simp only [c3,kk,oo,true_or,if_true]
 by_cases c4:1048576<l.count
 ·simp only [c3,c4,kk,oo,or_true,if_true,if_false]
 simp only [c3,c4,kk,if_false,or_self]
 cases c5:(iF tab l.cat d).2
 ·simp only [c5,kk,oo,if_true]
 ·simp only [c5,kk,oo,Bool.true_eq_false,if_false]
theorem bPi:apT prog 80=some (4,40):=by kernel_rfl
theorem bGa:uU 280=some (.spec ((Sp.ins 80).run prog)):=by kernel_rfl
theorem bPj {P:Program} {T:TypeId} {n b:Nat} (hT:apT P T=some (n,b)) (hn:1<n) {S0 S:St} {v:V} {es:List (List V)} (h:Own S0 S n v es) (x:Ext S0 S) (w:WF S0) {c:List V} (hc:c.length=n∧aN c=true) (h1:(es.length+1)*b≤35184372088832) (h2:es.length+1<fK) {i:Nat} (hi:i≤es.length):
  ∃ v' S',gC P T v (.int .i64 (i:Int)) (.sl S.next 0 n 0 1) ⟨S.next+1,S.heap.put S.next (.row 0 n [c])⟩=.ok (v',S')∧Ext S0 S'∧Own S0 S' n v' (es.take i++c::es.drop i):=by
 have x1:Ext S ⟨S.next+1,S.heap.put S.next (.row 0 n [c])⟩:=Ext.new (x.wf w) _
 obtain ⟨v',S',q1,q2,q3,_⟩:=(h.ext x1).insertK hT hn (x.trans x1) w (bx:=S.next) (c:=c) (aS _ _ _ _ _ _) (fun a ver m hv=>by
  rcases h.is with ⟨rfl,_⟩ | ⟨a',ver',tl,rfl,_,hlt,_⟩
  ·cases hv
  ·cases hv;omega) hc h1 h2 hi
 exact ⟨v',S',q1,q2,q3⟩
theorem bPk {S0 S:St} {v:V} {l:List Part} (own:Own S0 S 4 v (l.map Part.enc)) (x:Ext S0 S) (w:WF S0) (hl:l.length≤1000) (cat:List UInt8) (bp n:Int) {K:KW} (H:∀ v' S',Ext S0 S'→Own S0 S' 4 v' ((qF l cat bp n).1.map Part.enc)→K (.tup [v',.int .i64 (qF l cat bp n).2]) S'):C 269 [v,.str cat,.int .i64 bp,.int .i64 n] S K:=by
 refine bO6 ?_
 simp only [aW2]
 have hple:=pM l cat
 have hlen:lenW v=.ok (.int .i64 (l.length:Int)):=own.sl.lenI
 have hj1:∀ (v':V) (S':St),Ext S0 S'→Own S0 S' 4 v' ((dT l cat bp).map Part.enc)→aAd C K v' (.int .i64 n) (.int .i64 (bU l cat:Int)) S':=by
  intro v' S' x' own'
  obtain ⟨b,hb⟩:=pN l cat bp
  obtain ⟨a,ver,_,_,_,e4,hat,set1⟩:=own'.setK x' w (i:=bU l cat) (cs:=b.enc) (by simp [hb]) .i64
  obtain ⟨S2,st1,x2,n2,own2,keep2,w2⟩:=set1 2 1 (.int .i64 (cM b.net n).1) rfl rfl (by decide)
  have hld:=hat.load none 2
  simp only [adv,kk,Part.enc] at hld
  have hfin:((dT l cat bp).map Part.enc).set (bU l cat) (splice b.enc 2 [.int .i64 (cM b.net n).1])=((dT l cat bp).set (bU l cat) { b with net:=(cM b.net n).1 }).map Part.enc:=by rw [List.map_set];rfl
  simp only [V.cells] at own2
  rw [hfin] at own2
  have hput:qF l cat bp n=((dT l cat bp).set (bU l cat) { b with net:=(cM b.net n).1 },(cM b.net n).2):=by simp only [qF,hb]
  simp only [aAd,e4,kk,hld,aQe,gD,st1]
  have:=H v' S2 x2 (by rw [hput];exact own2)
  rw [hput] at this
  exact this
 have hj2:vW C K v (.str cat) (.int .i64 bp) (.int .i64 n) (.int .i64 (bU l cat:Int)) (.bool (jG l cat)) S:=by
  cases hm:jG l cat
  ·simp only [vW,kk,Bool.false_eq_true,if_false]
   exact hj1 v S x (by rw [show dT l cat bp=l by simp [dT,hm]];exact own)
  ·obtain ⟨v2,S2,q1,x2,own2⟩:=bPj bPi (by decide) own x w (aQl ⟨cat,bp,0,0⟩) (by simp;omega) (by simp [fK];omega) (i:=bU l cat) (by simpa using hple)
   rw [←lW] at own2
   simp only [Part.enc] at q1
   simp only [vW,kk,if_true,aQh]
   rw [aO0 bGa q1]
   exact hj1 v2 S2 x2 (by rw [show dT l cat bp=eH l (bU l cat) ⟨cat,bp,0,0⟩ by simp [dT,hm]];exact own2)
 have hj0:aAe C K v (.str cat) (.int .i64 bp) (.int .i64 n) (.int .i64 (bU l cat:Int)) S:=by
  simp only [aAe,kk,hlen]
  by_cases hk:bU l cat=l.length
  ·have hm:jG l cat=true:=by unfold jG;rw [hk,List.getElem?_eq_none (Nat.le_refl _)]
   rw [hm] at hj2
   rw [hk] at hj2
   simp only [hk,kk,if_true]
   exact hj2
  ·have hlt:bU l cat<l.length:=by omega
   have hb:l[bU l cat]?=some l[bU l cat]:=List.getElem?_eq_getElem hlt
   have hm:jG l cat=!((l[bU l cat]).cat == cat):=by unfold jG;rw [hb]
   rw [hm] at hj2
   obtain ⟨p,hp,hat,_,_⟩:=own.sl.elem hb
   have hld:=hat.load none 0
   simp only [Part.enc,kk] at hld
   simp only [show ¬ ((bU l cat:Nat):Int)=(l.length:Int) by omega,kk,if_false,hp,hat.advW,hld]
   exact hj2
 refine aY l (step:=eO (fun b:Part=>eZ b.cat cat)) (fin:=id) (fun k n vs S'=>n=k∧vs=[.int .i64 (k:Int)]∧S'=S) (fun r=>r=bU l cat) ?_ ?_ ⟨rfl,rfl,rfl⟩ rfl
 ·rintro k b m vs S' hk ⟨rfl,rfl,rfl⟩ again' H'
  have hkl:=(List.getElem?_eq_some_iff.1 hk).1
  obtain ⟨p,hp,hat,_,_⟩:=own.sl.elem hk
  have hld:=hat.load none 0
  simp only [Part.enc,kk] at hld
  simp only [eO] at H'
  simp only [aG9,kk,hlen,dI hk,hp,hat.advW,hld,nU (show m<1000000000 by omega)]
  cases c:eZ b.cat cat<;>simp only [c,kk,if_true,if_false,Bool.false_eq_true] at H' ⊢
  ·rw [←H'] at hj0
   exact hj0
  ·exact H' _ _ ⟨rfl,rfl⟩
 ·rintro m vs S' ⟨rfl,rfl,rfl⟩ again' H'
  have H':l.length=bU l cat:=H'
  simp only [aG9,kk,hlen,Int.lt_irrefl,if_false]
  rw [←H'] at hj0
  exact hj0
end Go.Proofs.YtoaibmbldmckaaaGreat
end
section
namespace Go.AM
theorem Own.one {S0 S:St} {n:Nat} {v:V} {es:List (List V)} (h:Own S0 S n v es):v.one=true:=by
 rcases h.is with ⟨rfl,_⟩ | ⟨a,ver,tl,rfl,_⟩<;>rfl
theorem Own.cells {S0 S:St} {n:Nat} {v:V} {es:List (List V)} (h:Own S0 S n v es):v.cells=[v]:=by
 rcases h.is with ⟨rfl,_⟩ | ⟨a,ver,tl,rfl,_⟩<;>rfl
theorem Own.lt {S0 S:St} {n:Nat} {v:V} {es:List (List V)} (h:Own S0 S n v es):∀ a ver m,v=.sl a ver n 0 m→a<S.next:=by
 intro a ver m hv
 rcases h.is with ⟨rfl,_⟩ | ⟨a',ver',tl,rfl,_,hlt,_⟩
 ·cases hv
 ·cases hv;exact hlt
theorem Own.ld {S0 S:St} {n:Nat} {v:V} {es:List (List V)} (h:Own S0 S n v es) {a ver m:Nat} (hv:v=.sl a ver n 0 m) {i:Nat} {cs:List V} (hi:es[i]?=some cs) (k:Option Nat) (j:Nat):bB k (.ptr a ver i j) S=gN k cs j:=by
 rcases h.is with ⟨rfl,rfl⟩ | ⟨a',ver',tl,rfl,q1,q2,q3⟩
 ·simp at hi
 ·cases hv
  have hil:=(List.getElem?_eq_some_iff.1 hi).1
  have hg:(es++tl)[i]?=some cs:=by rw [List.getElem?_append_left hil];exact hi
  simp only [ldP,fN q3,hg]
theorem Own.put {S0 S:St} {n:Nat} {v:V} {es:List (List V)} (h:Own S0 S n v es) {k m:Nat} {b:Blk} (hm:S.next≤m) (hk:∀ a ver m,v=.sl a ver n 0 m→k≠a):Own S0 ⟨m,S.heap.put k b⟩ n v es:=
 h.other hm fun a ver m hv=>Tr.get_put_neB _ _ _ _ trivial (Ne.symm (hk a ver m hv))
theorem Ext.put {S S':St} (h:Ext S S') {a m:Nat} (ha:S.next≤a) (hb:a<m) (hm:S'.next≤m) (w:WF S) (b:Blk):Ext S ⟨m,S'.heap.put a b⟩:=
 ⟨fun y c hy=>by
  show (S'.heap.put a b).get y=some c
  have:=w y c hy
  rw [Tr.get_put_neB _ _ _ _ trivial (by omega)];exact h.old y c hy,Nat.le_trans h.next hm,fun ww=>lC (h.wf ww) hb hm⟩
end Go.AM
namespace Go.Proofs.YtoaibmbldmckaaaGreat
open Go.AM Tryz
set_option linter.unusedVariables false
set_option linter.unusedSimpArgs false
set_option maxRecDepth 100000
theorem bPl {S0 S:St} {v:V} {l:List Part} (own:Own S0 S 4 v (l.map Part.enc)) (x:Ext S0 S) (w:WF S0) (hl:l.length≤1000) {K:KW}
  (H:∀ v' S',Ext S0 S'→Own S0 S' 4 v' ((eV l).1.parts.map Part.enc)→K (.tup [.agg [.int .i64 (eV l).1.net,.int .i64 (eV l).1.tax,.int .i64 (eV l).1.gross,v'],.int .i64 (eV l).2]) S'):C 270 [v] S K:=by
 refine bO8 ?_
 have hlen:lenW v=.ok (.int .i64 (l.length:Int)):=own.sl.lenI
 have h1:=own.one
 have hlt:=own.lt
 have h2:=own.cells
 simp only [aW4,kk,h1,h2,hlen]
 have hn:=x.next
 refine aY l (step:=fX) (fin:=kU) (fun i s vs S'=>vs=[.int .i64 0,.int .i64 (i:Int)]∧Ext S0 S'∧Own S0 S' 4 v ((s.2.2++l.drop i).map Part.enc)∧s.2.2.length=i∧S.next+2≤S'.next∧aI S' S.next 0=.ok (4,[[.int .i64 0,.int .i64 0,.int .i64 0,.nils]])∧aI S' (S.next+1) 0=.ok (4,[[.int .i64 s.1,.int .i64 s.2.1,.int .i64 0,v]])) (fun r=>r=eV l) ?_ ?_ (s:=(0,0,[])) ⟨rfl,?_,?_,rfl,?_,?_,?_⟩ rfl
 ·rintro i p ⟨net,tax,done⟩ vs S' hi ⟨rfl,x',own',hd,hn',hg0,hg1⟩ aP Hq
  have hil:=(List.getElem?_eq_some_iff.1 hi).1
  obtain ⟨a,ver,hv,ha,hb,e4,hat,set1⟩:=(own'.bump 17).setK (x'.bump 17) w (i:=i) (cs:=p.enc) (by
   rw [List.getElem?_map,List.getElem?_append_right (by omega),hd,Nat.sub_self,List.getElem?_drop,Nat.add_zero,hi];rfl) .i64
  obtain ⟨S2,st1,x2,n2,own2,keep2,w2⟩:=set1 3 1 (.int .i64 (cH p.net p.bp).1) rfl rfl (by decide)
  have hav:=hlt a ver _ hv
  have hld2:=hat.load none 2
  have hld1:=hat.load none 1
  simp only [adv,kk,Part.enc] at hld1 hld2
  have hne0:a≠S.next:=by omega
  have hne1:a≠S.next+1:=by omega
  have k0:=bI (S:=⟨S'.next+17,S'.heap⟩) hg0 (keep2 S.next (Ne.symm hne0))
  have k1:=bI (S:=⟨S'.next+17,S'.heap⟩) hg1 (keep2 (S.next+1) (Ne.symm hne1))
  have hes:((done++l.drop i).map Part.enc).set i (splice p.enc 3 [.int .i64 (cH p.net p.bp).1])=((done++[{ p with tax:=(cH p.net p.bp).1 }])++l.drop (i+1)).map Part.enc:=by
   have hd':done.length=i:=hd
   rw [List.drop_eq_getElem_cons hil,(List.getElem?_eq_some_iff.1 hi).2]
   simp only [List.map_append,List.map_cons,List.map_nil,List.append_assoc,List.singleton_append]
   rw [List.set_append_right _ _ (by simp;omega)]
   simp only [List.length_map,hd',Nat.sub_self,List.set_cons_zero]
   rfl
  simp only [V.cells] at own2
  rw [hes] at own2
  have hi2:(((done++[{ p with tax:=(cH p.net p.bp).1 }])++l.drop (i+1)).map Part.enc)[i]?=some (Part.enc { p with tax:=(cH p.net p.bp).1 }):=by
   have hd':done.length=i:=hd
   rw [List.getElem?_map,List.getElem?_append_left (by simp;omega),List.getElem?_append_right (by omega),hd',Nat.sub_self];rfl
  have ow3:∀ (m:Nat) (b:Blk),S2.next≤m→Own S0 ⟨m,S2.heap.put (S.next+1) b⟩ 4 v (((done++[{ p with tax:=(cH p.net p.bp).1 }])++l.drop (i+1)).map Part.enc):=fun m b hm=>own2.put hm fun a ver m hv=>by have:=hlt a ver m hv;omega
  have ld3:∀ (m:Nat) (b:Blk) (k:Option Nat) (j:Nat),S2.next≤m→bB k (.ptr a ver i j) ⟨m,S2.heap.put (S.next+1) b⟩=gN k (Part.enc { p with tax:=(cH p.net p.bp).1 }) j:=fun m b k j hm=>(ow3 m b hm).ld hv hi2 k j
  have ld2:∀ k j,bB k (.ptr a ver i j) ⟨S2.next+13,S2.heap⟩=gN k (Part.enc { p with tax:=(cH p.net p.bp).1 }) j:=fun k j=>(own2.bump 13).ld hv hi2 k j
  have l2:=ld2 none 2
  have l3:=fun m b hm=>ld3 m b none 3 hm
  simp only [fX] at Hq
  simp only [kk,Part.enc] at l2 l3
  have hn2:S2.next=S'.next+17:=n2
  have g0:∀ (m:Nat) (b:Blk),aI ⟨m,S2.heap.put (S.next+1) b⟩ S.next 0=.ok (4,[[V.int IntKind.i64 0,V.int IntKind.i64 0,V.int IntKind.i64 0,V.nils]]):=fun m b=>by
   rw [dA _ S2.next _ _ _ _ _ (by omega)];exact k0
  have x3:∀ (m:Nat) (b:Blk),S2.next≤m→Ext S0 ⟨m,S2.heap.put (S.next+1) b⟩:=fun m b hm=>x2.put (by omega) (by omega) hm w b
  simp only [aGa,kk,dI hi,e4,hld1,hld2,bFn,aQe,gD,st1,nU (show i<1000000000 by omega),gm,k1,l2,l3 _ _ (show S2.next≤S2.next+13+13 by omega)]
  obtain ⟨S9,hS9⟩:∃ S9:St,S9=⟨S2.next+13+13,(S2.heap.put (S.next+1) (Blk.row 0 4 [[V.int IntKind.i64 (cM net p.net).1,V.int IntKind.i64 tax,V.int IntKind.i64 0,v]])).put (S.next+1) (Blk.row 0 4 [[V.int IntKind.i64 (cM net p.net).1,V.int IntKind.i64 (cM tax (cH p.net p.bp).1).1,V.int IntKind.i64 0,v]])⟩:=⟨_,rfl⟩
  have x9:Ext S0 S9:=by rw [hS9];exact (x3 S2.next _ (Nat.le_refl _)).put (by omega) (by omega) (show S2.next≤S2.next+13+13 by omega) w _
  have o9:Own S0 S9 4 v (((done++[{ p with tax:=(cH p.net p.bp).1 }])++l.drop (i+1)).map Part.enc):=by rw [hS9];exact (ow3 S2.next _ (Nat.le_refl _)).put (show S2.next≤S2.next+13+13 by omega) fun a ver m hv=>by have:=hlt a ver m hv;omega
  have r9:aI S9 S.next 0=.ok (4,[[V.int IntKind.i64 0,V.int IntKind.i64 0,V.int IntKind.i64 0,V.nils]]):=by rw [hS9,dA _ S2.next _ _ _ _ _ (by omega)];exact g0 _ _
  have q9:aI S9 (S.next+1) 0=.ok (4,[[V.int IntKind.i64 (cM net p.net).1,V.int IntKind.i64 (cM tax (cH p.net p.bp).1).1,V.int IntKind.i64 0,v]]):=by rw [hS9];exact aS _ _ _ _ _ _
  have n9:S.next+2≤S9.next:=by rw [hS9];show _≤S2.next+13+13;omega
  rw [←hS9]
  have fail:eV l=(Total.zero,7)→sC C K aP v (V.ptr S.next 0 0 0) (V.int IntKind.i64 0) (V.ptr (S.next+1) 0 0 0) (V.int IntKind.i64 ↑l.length) (V.int IntKind.i64 ↑i) (V.bool true) S9:=by
   intro he
   have:=H .nils ⟨S9.next,S9.heap.put S.next (.row 0 4 [[.int .i64 0,.int .i64 0,.int .i64 0,.nils]])⟩ (x9.put hn (by omega) (Nat.le_refl _) w _) (by rw [he];exact Own.nil _ _ _)
   simp only [he,Total.zero] at this
   simp only [sC,kk,r9]
   exact this
  by_cases c1:(cH p.net p.bp).2=0
  ·by_cases c2:(cM net p.net).2=0
   ·simp only [c1,c2,kk,not_true_eq_false,not_false_eq_true,false_or,if_false,if_true] at Hq ⊢
    by_cases c3:(cM tax (cH p.net p.bp).1).2=0
    ·simp only [c3,kk,not_true_eq_false,if_false] at Hq ⊢
     simp only [sC,kk,nU (show i<1000000000 by omega),decide_true,decide_false,Bool.false_eq_true,if_false]
     exact Hq _ _ ⟨rfl,x9,o9,by have hd':done.length=i:=hd;simp;omega,n9,r9,q9⟩
    ·simp only [c3,kk,not_false_eq_true,if_true,decide_false] at Hq ⊢
     exact fail Hq.symm
   ·simp only [c1,c2,kk,not_true_eq_false,not_false_eq_true,false_or,true_or,if_false,if_true] at Hq ⊢
    exact fail Hq.symm
  ·simp only [c1,kk,not_false_eq_true,true_or,if_true] at Hq ⊢
   exact fail Hq.symm
 ·rintro ⟨net,tax,done⟩ vs S' ⟨rfl,x',own',hd,hn',hg0,hg1⟩ aP Hq
  rw [List.drop_length,List.append_nil] at own'
  simp only [kU] at Hq
  simp only [aGa,kk,Int.lt_irrefl,if_false,hg1,aQe,gD]
  by_cases c:(cM net tax).2=0
  ·simp only [c,kk,not_true_eq_false,if_false] at Hq ⊢
   have hb:∀ (k:Nat) (b:Blk),aI ⟨S'.next,S'.heap.put (S.next+1) b⟩ S.next 0=.ok (4,[[V.int IntKind.i64 0,V.int IntKind.i64 0,V.int IntKind.i64 0,V.nils]]):=fun k b=>by rw [dA _ S'.next _ _ _ _ _ (by omega)];exact hg0
   simp only [hb 0,kk,h1,h2,gm]
   have x1:=x'.put (a:=S.next+1) (m:=S'.next) (by omega) (by omega) (Nat.le_refl _) w (.row 0 4 [[.int .i64 net,.int .i64 tax,.int .i64 (cM net tax).1,v]])
   have o1:=own'.put (k:=S.next+1) (m:=S'.next) (b:=.row 0 4 [[.int .i64 net,.int .i64 tax,.int .i64 (cM net tax).1,v]]) (Nat.le_refl _) fun a ver m hv=>by have:=hlt a ver m hv;omega
   have:=H v _ (x1.put (a:=S.next) (m:=S'.next) hn (by omega) (Nat.le_refl _) w (.row 0 4 [[.int .i64 net,.int .i64 tax,.int .i64 (cM net tax).1,v]])) (by rw [←Hq];exact o1.put (Nat.le_refl _) fun a ver m hv=>by have:=hlt a ver m hv;omega)
   rw [←Hq] at this
   exact this
  ·simp only [c,kk,not_false_eq_true,if_true] at Hq ⊢
   simp only [hg0,kk]
   have:=H .nils ⟨S'.next,S'.heap.put S.next (.row 0 4 [[.int .i64 0,.int .i64 0,.int .i64 0,.nils]])⟩ (x'.put hn (by omega) (Nat.le_refl _) w _) (by rw [←Hq];exact Own.nil _ _ _)
   rw [←Hq] at this
   exact this
 ·exact ((x.put (m:=S.next+1+1) hn (by omega) (by omega) w _).put (m:=S.next+1+1) (by omega) (by omega) (Nat.le_refl _) w _).put (m:=S.next+1+1) (by omega) (by omega) (Nat.le_refl _) w _
 ·rw [List.nil_append,List.drop_zero]
  have nn:∀ k,S.next≤k→∀ a ver m,v=.sl a ver 4 0 m→k≠a:=fun k hk a ver m hv=>by have:=hlt a ver m hv;omega
  exact ((own.put (m:=S.next+1+1) (by omega) (nn _ (Nat.le_refl _))).put (Nat.le_refl _) (nn _ (by omega))).put (Nat.le_refl _) (nn _ (by omega))
 ·exact Nat.le_refl _
 ·rw [dA _ S.next _ _ _ _ _ (by omega),dA _ S.next _ _ _ _ _ (by omega)];exact aS _ _ _ _ _ _
 ·exact aS _ _ _ _ _ _
end Go.Proofs.YtoaibmbldmckaaaGreat
end
section
namespace Go.AM
theorem Own.out {S0 S:St} {n:Nat} {v:V} {α:Type} {enc:α→List V} {l:List α} (h:Own S0 S n v (l.map enc)) (hc:∀ x,cloVs (enc x)=true):dQ mQ (qD (lE S 3) S) v=.ok (.imm (l.map enc)):=h.frz (dV hc _)
end Go.AM
namespace Go.Proofs.YtoaibmbldmckaaaGreat
open Go.AM Tryz
set_option linter.unusedVariables false
set_option linter.unusedSimpArgs false
set_option maxRecDepth 100000
def aKh (r:Total×Int):V:=.tup [.agg [.int .i64 r.1.net,.int .i64 r.1.tax,.int .i64 r.1.gross,.imm (r.1.parts.map Part.enc)],.int .i64 r.2]
theorem bPm (tab:List Rate) (d:Date) (lines:List Line) (hll:lines.length<1000000) (S:St) (K:KW):C 238 [.imm (tab.map Rate.enc),.agg [.int .i64 d.y,.int .i64 d.m,.int .i64 d.d],.imm (lines.map Line.enc)] S K=K (aKh (dM tab d lines)) S:=by
 refine (bNs rfl ?_).eq S K
 simp only [aVo,kk,iV,g85,zX,dM,aKh]
 cases h1:fY tab
 ·simp only [h1,kk,oo,if_true,Total.zero,List.map_nil]
 cases h2:d.right
 ·simp only [h1,h2,kk,iV,oo,if_true,Bool.true_eq_false,if_false,Total.zero,List.map_nil]
 simp only [h1,h2,kk,Bool.true_eq_false,if_false,iV,zX]
 by_cases h3:lines.length=0
 ·simp only [h3,kk,iV,oo,show ((0:Nat):Int)=0 from rfl,if_true,Total.zero,List.map_nil]
 by_cases h4:12<lines.length
 ·simp only [h3,h4,kk,iV,oo,show ¬ (lines.length:Int)=0 by omega,show (12:Int)<(lines.length:Int) by omega,if_true,if_false,Total.zero,List.map_nil]
 simp only [h3,h4,kk,iV,show ¬ (lines.length:Int)=0 by omega,show ¬ (12:Int)<(lines.length:Int) by omega,if_false]
 obtain ⟨S0,hS0⟩:∃ S0:St,S0=⟨1+1,(Tr.nil.put 0 (.row 0 3 [d.enc])).put 1 (.row 0 4 [[.int .i64 0,.int .i64 0,.int .i64 0,.nils]])⟩:=⟨_,rfl⟩
 have w0:WF S0:=by rw [hS0];exact lC (n:=1) (lC qA (by decide) (by decide)) (by decide) (by decide)
 have a0:aI S0 0 0=.ok (3,[d.enc]):=by rw [hS0];rfl
 have a1:aI S0 1 0=.ok (4,[[.int .i64 0,.int .i64 0,.int .i64 0,.nils]]):=by rw [hS0];rfl
 have n0:S0.next=2:=by rw [hS0]
 simp only [Date.enc] at a0
 refine aY lines (step:=iJ tab d) (fin:=eV) (fun i s vs S=>∃ v,vs=[.int .i64 0,v,.int .i64 (i:Int)]∧Own S0 S 4 v (s.map Part.enc)∧Ext S0 S∧s.length≤i) (fun r=>r=aO (iJ tab d) eV lines []) ?_ ?_ (s:=[]) ⟨_,rfl,Own.nil _ _ _,by rw [hS0];exact Ext.refl _,Nat.le_refl _⟩ rfl
 ·rintro i l s vs S hi ⟨v,rfl,own,x,hsl⟩ aP H
  have hil:=(List.getElem?_eq_some_iff.1 hi).1
  simp only [iJ] at H
  have hn:=x.next
  have b0:=x.row a0
  have b1:=x.row a1
  have z0:((0:Nat)=S.next)=False:=by simp;omega
  have z1:((1:Nat)=S.next)=False:=by simp;omega
  have x1:Ext S0 ⟨S.next+1,(S.heap.put S.next (.row 0 4 [[.str [],.str [],.int .i64 0,.int .i64 0]])).put S.next (.row 0 4 [l.enc])⟩:=(x.put (m:=S.next+1) hn (by omega) (by omega) w0 _).put (m:=S.next+1) hn (by omega) (Nat.le_refl _) w0 _
  have nn:∀ a ver m,v=.sl a ver 4 0 m→S.next≠a:=fun a ver m hv=>by have:=own.lt a ver m hv;omega
  have o1:Own S0 ⟨S.next+1,(S.heap.put S.next (.row 0 4 [[.str [],.str [],.int .i64 0,.int .i64 0]])).put S.next (.row 0 4 [l.enc])⟩ 4 v (s.map Part.enc):=(own.put (m:=S.next+1) (by omega) nn).put (m:=S.next+1) (Nat.le_refl _) nn
  simp only [Line.enc] at x1 o1
  simp only [aG3,kk,dI hi,bBm hi,Line.enc,iV,z0,z1,gm,b0,b1,bPh,aQ9]
  by_cases c1:(fF tab d l).2.2=0
  ·simp only [c1,kk,not_true_eq_false,if_false] at H ⊢
   refine bPk o1 x1 w0 (by omega) l.cat _ _ fun v' S' x' own'=>?_
   have b1':=x'.row a1
   by_cases c2:(qF s l.cat (fF tab d l).1 (fF tab d l).2.1).2=0
   ·simp only [c2,kk,not_true_eq_false,if_false,nU (show i<1000000000 by omega)] at H ⊢
    exact H _ _ ⟨v',rfl,own',x',by have:=aI3 s l.cat (fF tab d l).1 (fF tab d l).2.1;omega⟩
   ·simp only [c2,kk,b1',not_false_eq_true,if_true] at H ⊢
    simp only [oo,←H,Total.zero,List.map_nil]
  ·simp only [c1,kk,not_false_eq_true,if_true] at H ⊢
   simp only [oo,←H,Total.zero,List.map_nil]
 ·rintro s vs S ⟨v,rfl,own,x,hsl⟩ aP H
  simp only [aG3,kk,Int.lt_irrefl,if_false]
  refine bPl own x w0 (by omega) fun v' S' x' own'=>?_
  have b1':=x'.row a1
  have H':eV s=aO (iJ tab d) eV lines []:=H
  simp only [kk,own'.one,own'.cells,b1',←H']
  have:=(own'.put (m:=S'.next) (k:=1) (b:=.row 0 4 [[.int .i64 (eV s).1.net,.int .i64 (eV s).1.tax,.int .i64 (eV s).1.gross,v']]) (Nat.le_refl _) fun a ver m hv=>by
   rcases own'.is with ⟨rfl,_⟩ | ⟨a',ver',tl,rfl,h,_⟩
   ·cases hv
   ·cases hv;omega).out fun _=>rfl
  simp only [oo,this]
end Go.Proofs.YtoaibmbldmckaaaGreat
end
