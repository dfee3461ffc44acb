import Derived.KernelRfl
import Derived.Test.YtoaibmbldmckaaaGreatProg
import Derived.Test.YtoaibmbldmckaaaGreatX2
set_option linter.unusedSimpArgs false
set_option linter.unusedVariables false
set_option linter.unusedSectionVars false
set_option maxRecDepth 100000
section
namespace Go.Proofs.YtoaibmbldmckaaaGreat
open Go.AM Tryz
theorem aYi (s x:V) (fr:Option Nat) (S:St):aW prog 102 s x fr S=dG 23 224 s x fr S:=dC (by kernel_rfl) s x fr S
theorem bB8 (s x:V) (fr:Option Nat) (S:St):aW prog 22 s x fr S=dG 1 1 s x fr S:=dC (by kernel_rfl) s x fr S
theorem bB9 (s x:V) (fr:Option Nat) (S:St):aW prog 24 s x fr S=dG 5 48 s x fr S:=dC (by kernel_rfl) s x fr S
theorem bBa (s x:V) (fr:Option Nat) (S:St):aW prog 25 s x fr S=dG 4 40 s x fr S:=dC (by kernel_rfl) s x fr S
theorem bBb (s x:V) (fr:Option Nat) (S:St):aW prog 26 s x fr S=dG 12 128 s x fr S:=dC (by kernel_rfl) s x fr S
theorem bBc (s x:V) (fr:Option Nat) (S:St):aW prog 27 s x fr S=dG 2 24 s x fr S:=dC (by kernel_rfl) s x fr S
theorem bBd (s x:V) (fr:Option Nat) (S:St):aW prog 28 s x fr S=dG 5 40 s x fr S:=dC (by kernel_rfl) s x fr S
theorem bBe (s x:V) (fr:Option Nat) (S:St):aW prog 44 s x fr S=dG 17 176 s x fr S:=dC (by kernel_rfl) s x fr S
theorem bBf (s x:V) (fr:Option Nat) (S:St):aW prog 55 s x fr S=dG 4 48 s x fr S:=dC (by kernel_rfl) s x fr S
theorem bBg (s x:V) (fr:Option Nat) (S:St):aW prog 62 s x fr S=dG 3 24 s x fr S:=dC (by kernel_rfl) s x fr S
theorem bBh (s x:V) (fr:Option Nat) (S:St):aW prog 71 s x fr S=dG 4 40 s x fr S:=dC (by kernel_rfl) s x fr S
theorem bBi (s x:V) (fr:Option Nat) (S:St):aW prog 80 s x fr S=dG 4 40 s x fr S:=dC (by kernel_rfl) s x fr S
theorem bBj (s x:V) (fr:Option Nat) (S:St):aW prog 96 s x fr S=dG 1 8 s x fr S:=dC (by kernel_rfl) s x fr S
theorem bBk (s x:V) (fr:Option Nat) (S:St):aW prog 97 s x fr S=dG 23 224 s x fr S:=dC (by kernel_rfl) s x fr S
theorem bBl (parts:List (Nat×V)):aP prog 126 parts=bM [.str [],.int .i64 0,.int .i64 0,.bool false] [(0,1),(1,1),(2,1),(3,1)] parts:=bX (by kernel_rfl) parts
theorem bBm (parts:List (Nat×V)):aP prog 132 parts=bM [.int .i64 0,.int .i64 0,.int .i64 0,.int .i64 0,.int .i64 0] [(0,1),(1,1),(2,3)] parts:=bX (by kernel_rfl) parts
theorem bBn (parts:List (Nat×V)):aP prog 142 parts=bM [.nils,.int .i64 0,.int .i64 0] [(0,1),(1,1),(2,1)] parts:=bX (by kernel_rfl) parts
theorem bBo (parts:List (Nat×V)):aP prog 145 parts=bM [.str [],.int .i64 0,.int .i64 0,.int .i64 0] [(0,1),(1,1),(2,1),(3,1)] parts:=bX (by kernel_rfl) parts
theorem bBp (parts:List (Nat×V)):aP prog 160 parts=bM [.nils] [(0,1)] parts:=bX (by kernel_rfl) parts
theorem bBq (parts:List (Nat×V)):aP prog 201 parts=bM [.str [],.str [],.int .i64 0,.int .i64 0] [(0,1),(1,1),(2,1),(3,1)] parts:=bX (by kernel_rfl) parts
theorem bBr (parts:List (Nat×V)):aP prog 207 parts=bM [.int .i64 0,.int .i64 0,.int .i64 0,.str [],.int .i64 0,.str [],.int .i64 0,.int .i64 0,.int .i64 0,.int .i64 0,.int .i64 0,.int .i64 0,.int .i64 0,.nils,.str [],.int .i64 0,.int .i64 0,.int .i64 0,.int .i64 0,.int .i64 0,.int .i64 0,.int .i64 0,.int .i64 0] [(0,17),(17,1),(18,1),(19,1),(20,3)] parts:=bX (by kernel_rfl) parts
theorem bBs (parts:List (Nat×V)):aP prog 212 parts=bM [.nili] [(0,1)] parts:=bX (by kernel_rfl) parts
theorem bBt (parts:List (Nat×V)):aP prog 225 parts=bM [.nils,.int .i64 0,.int .i64 0] [(0,1),(1,1),(2,1)] parts:=bX (by kernel_rfl) parts
theorem bBu (parts:List (Nat×V)):aP prog 287 parts=bM [.nils,.bool false] [(0,1),(1,1)] parts:=bX (by kernel_rfl) parts
theorem bGh (parts:List (Nat×V)):aP prog 30 parts=bM [.nils,.nils,.nils,.nils,.nils,.int .i64 0] [(0,1),(1,1),(2,1),(3,1),(4,1),(5,1)] parts:=bX (by kernel_rfl) parts
theorem bBv (parts:List (Nat×V)):aP prog 346 parts=bM [.int .i64 0,.int .u64 0] [(0,1),(1,1)] parts:=bX (by kernel_rfl) parts
theorem bGi (parts:List (Nat×V)):aP prog 48 parts=bM [.int .i64 0,.int .i64 0,.int .i64 0] [(0,1),(1,1),(2,1)] parts:=bX (by kernel_rfl) parts
theorem bGj (parts:List (Nat×V)):aP prog 52 parts=bM [.int .i64 0,.int .i64 0,.int .i64 0] [(0,1),(1,1),(2,1)] parts:=bX (by kernel_rfl) parts
theorem bGk (parts:List (Nat×V)):aP prog 54 parts=bM [.str [],.int .i64 0,.int .i64 0,.int .i64 0,.int .i64 0] [(0,1),(1,3),(4,1)] parts:=bX (by kernel_rfl) parts
theorem bGl (parts:List (Nat×V)):aP prog 57 parts=bM [.str [],.int .i64 0] [(0,1),(1,1)] parts:=bX (by kernel_rfl) parts
theorem bGm (parts:List (Nat×V)):aP prog 59 parts=bM [.int .i64 0,.str [],.int .i64 0,.str [],.int .i64 0,.int .i64 0,.int .i64 0,.int .i64 0,.int .i64 0,.int .i64 0,.int .i64 0,.nils,.str [],.int .i64 0,.int .i64 0] [(0,1),(1,1),(2,1),(3,5),(8,3),(11,1),(12,2),(14,1)] parts:=bX (by kernel_rfl) parts
theorem bGn (parts:List (Nat×V)):aP prog 61 parts=bM [.int .i64 0,.int .i64 0,.int .i64 0,.str [],.int .i64 0,.str [],.int .i64 0,.int .i64 0,.int .i64 0,.int .i64 0,.int .i64 0,.int .i64 0,.int .i64 0,.nils,.str [],.int .i64 0,.int .i64 0] [(0,1),(1,1),(2,15)] parts:=bX (by kernel_rfl) parts
theorem bGo (parts:List (Nat×V)):aP prog 76 parts=bM [.str [],.int .i64 0,.int .i64 0,.int .i64 0] [(0,1),(1,1),(2,1),(3,1)] parts:=bX (by kernel_rfl) parts
theorem bGp (parts:List (Nat×V)):aP prog 77 parts=bM [.str [],.int .i64 0,.int .i64 0,.int .i64 0] [(0,1),(1,1),(2,1),(3,1)] parts:=bX (by kernel_rfl) parts
theorem bGq (parts:List (Nat×V)):aP prog 82 parts=bM [.int .i64 0,.int .i64 0,.int .i64 0,.nils] [(0,1),(1,1),(2,1),(3,1)] parts:=bX (by kernel_rfl) parts
theorem bGr (parts:List (Nat×V)):aP prog 84 parts=bM [.str [],.int .i64 0,.int .i64 0,.int .i64 0,.int .i64 0,.int .i64 0,.int .i64 0,.int .i64 0,.nils,.str [],.int .i64 0,.bool false] [(0,2),(2,3),(5,4),(9,2),(11,1)] parts:=bX (by kernel_rfl) parts
theorem bGs (parts:List (Nat×V)):aP prog 90 parts=bM [.str [],.int .i64 0] [(0,1),(1,1)] parts:=bX (by kernel_rfl) parts
theorem bGt (parts:List (Nat×V)):aP prog 99 parts=bM [.int .i64 0,.int .i64 0,.int .i64 0,.str [],.int .i64 0,.str [],.int .i64 0,.int .i64 0,.int .i64 0,.int .i64 0,.int .i64 0,.int .i64 0,.int .i64 0,.nils,.str [],.int .i64 0,.int .i64 0,.int .i64 0,.int .i64 0,.int .i64 0,.int .i64 0,.int .i64 0,.int .i64 0] [(0,17),(17,1),(18,1),(19,1),(20,3)] parts:=bX (by kernel_rfl) parts
theorem bBw (len:Nat) (parts:List (Nat×V)) (fr:Option Nat) (S:St):aK prog 102 len parts fr S=aQ 23 [.int .i64 0,.int .i64 0,.int .i64 0,.str [],.int .i64 0,.str [],.int .i64 0,.int .i64 0,.int .i64 0,.int .i64 0,.int .i64 0,.int .i64 0,.int .i64 0,.nils,.str [],.int .i64 0,.int .i64 0,.int .i64 0,.int .i64 0,.int .i64 0,.int .i64 0,.int .i64 0,.int .i64 0] len parts fr S:=bN (by kernel_rfl) len parts fr S
theorem bGu (len:Nat) (parts:List (Nat×V)) (fr:Option Nat) (S:St):aK prog 22 len parts fr S=aQ 1 [.int .u8 0] len parts fr S:=bN (by kernel_rfl) len parts fr S
theorem bGv (len:Nat) (parts:List (Nat×V)) (fr:Option Nat) (S:St):aK prog 24 len parts fr S=aQ 5 [.str [],.int .i64 0,.int .i64 0,.int .i64 0,.int .i64 0] len parts fr S:=bN (by kernel_rfl) len parts fr S
theorem bGw (len:Nat) (parts:List (Nat×V)) (fr:Option Nat) (S:St):aK prog 25 len parts fr S=aQ 4 [.str [],.int .i64 0,.int .i64 0,.bool false] len parts fr S:=bN (by kernel_rfl) len parts fr S
theorem bGx (len:Nat) (parts:List (Nat×V)) (fr:Option Nat) (S:St):aK prog 26 len parts fr S=aQ 12 [.str [],.int .i64 0,.int .i64 0,.int .i64 0,.int .i64 0,.int .i64 0,.int .i64 0,.int .i64 0,.nils,.str [],.int .i64 0,.bool false] len parts fr S:=bN (by kernel_rfl) len parts fr S
theorem bGy (len:Nat) (parts:List (Nat×V)) (fr:Option Nat) (S:St):aK prog 27 len parts fr S=aQ 2 [.str [],.int .i64 0] len parts fr S:=bN (by kernel_rfl) len parts fr S
theorem bGz (len:Nat) (parts:List (Nat×V)) (fr:Option Nat) (S:St):aK prog 28 len parts fr S=aQ 5 [.int .i64 0,.int .i64 0,.int .i64 0,.int .i64 0,.int .i64 0] len parts fr S:=bN (by kernel_rfl) len parts fr S
theorem bBx (len:Nat) (parts:List (Nat×V)) (fr:Option Nat) (S:St):aK prog 361 len parts fr S=aQ 1 [.nilp] len parts fr S:=bN (by kernel_rfl) len parts fr S
theorem bBy (len:Nat) (parts:List (Nat×V)) (fr:Option Nat) (S:St):aK prog 364 len parts fr S=aQ 1 [.str []] len parts fr S:=bN (by kernel_rfl) len parts fr S
theorem bH0 (len:Nat) (parts:List (Nat×V)) (fr:Option Nat) (S:St):aK prog 44 len parts fr S=aQ 17 [.int .i64 0,.int .i64 0,.int .i64 0,.str [],.int .i64 0,.str [],.int .i64 0,.int .i64 0,.int .i64 0,.int .i64 0,.int .i64 0,.int .i64 0,.int .i64 0,.nils,.str [],.int .i64 0,.int .i64 0] len parts fr S:=bN (by kernel_rfl) len parts fr S
theorem bH1 (len:Nat) (parts:List (Nat×V)) (fr:Option Nat) (S:St):aK prog 55 len parts fr S=aQ 4 [.str [],.str [],.int .i64 0,.int .i64 0] len parts fr S:=bN (by kernel_rfl) len parts fr S
theorem bH2 (len:Nat) (parts:List (Nat×V)) (fr:Option Nat) (S:St):aK prog 62 len parts fr S=aQ 3 [.int .i64 0,.int .i64 0,.int .i64 0] len parts fr S:=bN (by kernel_rfl) len parts fr S
theorem bH3 (len:Nat) (parts:List (Nat×V)) (fr:Option Nat) (S:St):aK prog 68 len parts fr S=aQ 4 [.str [],.int .i64 0,.int .i64 0,.int .i64 0] len parts fr S:=bN (by kernel_rfl) len parts fr S
theorem bH4 (len:Nat) (parts:List (Nat×V)) (fr:Option Nat) (S:St):aK prog 71 len parts fr S=aQ 4 [.str [],.int .i64 0,.int .i64 0,.int .i64 0] len parts fr S:=bN (by kernel_rfl) len parts fr S
theorem bH5 (len:Nat) (parts:List (Nat×V)) (fr:Option Nat) (S:St):aK prog 80 len parts fr S=aQ 4 [.str [],.int .i64 0,.int .i64 0,.int .i64 0] len parts fr S:=bN (by kernel_rfl) len parts fr S
theorem bH6 (len:Nat) (parts:List (Nat×V)) (fr:Option Nat) (S:St):aK prog 96 len parts fr S=aQ 1 [.int .i64 0] len parts fr S:=bN (by kernel_rfl) len parts fr S
theorem bH7 (len:Nat) (parts:List (Nat×V)) (fr:Option Nat) (S:St):aK prog 97 len parts fr S=aQ 23 [.int .i64 0,.int .i64 0,.int .i64 0,.str [],.int .i64 0,.str [],.int .i64 0,.int .i64 0,.int .i64 0,.int .i64 0,.int .i64 0,.int .i64 0,.int .i64 0,.nils,.str [],.int .i64 0,.int .i64 0,.int .i64 0,.int .i64 0,.int .i64 0,.int .i64 0,.int .i64 0,.int .i64 0] len parts fr S:=bN (by kernel_rfl) len parts fr S
theorem aV4 (j:IntKind) (n:Int) (fr:Option Nat) (S:St):bH prog 229 3 (.int j n) fr S=.ok (.int .i64 (wr .i64 n),S):=kI (by kernel_rfl) j n fr S
theorem aV5 (j:IntKind) (n:Int) (fr:Option Nat) (S:St):bH prog 229 5 (.int j n) fr S=.ok (.int .u8 (wr .u8 n),S):=kI (by kernel_rfl) j n fr S
theorem aV6 (j:IntKind) (n:Int) (fr:Option Nat) (S:St):bH prog 3 229 (.int j n) fr S=.ok (.int .u64 (wr .u64 n),S):=kI (by kernel_rfl) j n fr S
theorem aV7 (j:IntKind) (n:Int) (fr:Option Nat) (S:St):bH prog 3 231 (.int j n) fr S=.ok (.int .u64 (wr .u64 n),S):=kI (by kernel_rfl) j n fr S
theorem aV8 (j:IntKind) (n:Int) (fr:Option Nat) (S:St):bH prog 5 229 (.int j n) fr S=.ok (.int .u64 (wr .u64 n),S):=kI (by kernel_rfl) j n fr S
theorem aYj:(fun (a_0:List UInt8) (a_1:Int) (a_2:Int) (a_3:Bool) (b_0:List UInt8) (b_1:Int) (b_2:Int) (b_3:Bool)=>mC prog 100 126 (.agg [.str a_0,.int .i64 a_1,.int .i64 a_2,.bool a_3]) (.agg [.str b_0,.int .i64 b_1,.int .i64 b_2,.bool b_3]))=fun a_0 a_1 a_2 a_3 b_0 b_1 b_2 b_3=>(eX (.ok (mW a_0 b_0)) (eX (.ok (decide (a_1=b_1))) (eX (.ok (decide (a_2=b_2))) (eX (.ok (a_3 == b_3)) (.ok true))))):=by kernel_rfl
theorem bBz (a_0:List UInt8) (a_1:Int) (a_2:Int) (a_3:Bool) (b_0:List UInt8) (b_1:Int) (b_2:Int) (b_3:Bool):mC prog 100 126 (.agg [.str a_0,.int .i64 a_1,.int .i64 a_2,.bool a_3]) (.agg [.str b_0,.int .i64 b_1,.int .i64 b_2,.bool b_3])=.ok ((a_0 == b_0)&&decide (a_1=b_1)&&decide (a_2=b_2)&&(a_3 == b_3)):=by
 refine (congrFun (congrFun (congrFun (congrFun (congrFun (congrFun (congrFun (congrFun aYj a_0) a_1) a_2) a_3) b_0) b_1) b_2) b_3).trans ?_
 simp only [iS,dE,Bool.and_true,Bool.and_assoc]
theorem bC0:(fun a b=>aL prog 126 (.agg a) (.agg b))=fun _ _=>true:=by kernel_rfl
theorem aYk:(fun (a_0:Int) (a_1:Int) (a_2_0:Int) (a_2_1:Int) (a_2_2:Int) (b_0:Int) (b_1:Int) (b_2_0:Int) (b_2_1:Int) (b_2_2:Int)=>mC prog 100 132 (.agg [.int .i64 a_0,.int .i64 a_1,.int .i64 a_2_0,.int .i64 a_2_1,.int .i64 a_2_2]) (.agg [.int .i64 b_0,.int .i64 b_1,.int .i64 b_2_0,.int .i64 b_2_1,.int .i64 b_2_2]))=fun a_0 a_1 a_2_0 a_2_1 a_2_2 b_0 b_1 b_2_0 b_2_1 b_2_2=>(eX (.ok (decide (a_0=b_0))) (eX (.ok (decide (a_1=b_1))) (eX (eX (.ok (decide (a_2_0=b_2_0))) (eX (.ok (decide (a_2_1=b_2_1))) (eX (.ok (decide (a_2_2=b_2_2))) (.ok true)))) (.ok true)))):=by kernel_rfl
theorem bC1 (a_0:Int) (a_1:Int) (a_2_0:Int) (a_2_1:Int) (a_2_2:Int) (b_0:Int) (b_1:Int) (b_2_0:Int) (b_2_1:Int) (b_2_2:Int):mC prog 100 132 (.agg [.int .i64 a_0,.int .i64 a_1,.int .i64 a_2_0,.int .i64 a_2_1,.int .i64 a_2_2]) (.agg [.int .i64 b_0,.int .i64 b_1,.int .i64 b_2_0,.int .i64 b_2_1,.int .i64 b_2_2])=.ok (decide (a_0=b_0)&&decide (a_1=b_1)&&decide (a_2_0=b_2_0)&&decide (a_2_1=b_2_1)&&decide (a_2_2=b_2_2)):=by
 refine (congrFun (congrFun (congrFun (congrFun (congrFun (congrFun (congrFun (congrFun (congrFun (congrFun aYk a_0) a_1) a_2_0) a_2_1) a_2_2) b_0) b_1) b_2_0) b_2_1) b_2_2).trans ?_
 simp only [iS,dE,Bool.and_true,Bool.and_assoc]
theorem bC2:(fun a b=>aL prog 132 (.agg a) (.agg b))=fun _ _=>true:=by kernel_rfl
theorem aYl:(fun (a_0:List UInt8) (a_1:Int) (a_2:Int) (a_3:Int) (b_0:List UInt8) (b_1:Int) (b_2:Int) (b_3:Int)=>mC prog 100 145 (.agg [.str a_0,.int .i64 a_1,.int .i64 a_2,.int .i64 a_3]) (.agg [.str b_0,.int .i64 b_1,.int .i64 b_2,.int .i64 b_3]))=fun a_0 a_1 a_2 a_3 b_0 b_1 b_2 b_3=>(eX (.ok (mW a_0 b_0)) (eX (.ok (decide (a_1=b_1))) (eX (.ok (decide (a_2=b_2))) (eX (.ok (decide (a_3=b_3))) (.ok true))))):=by kernel_rfl
theorem bC3 (a_0:List UInt8) (a_1:Int) (a_2:Int) (a_3:Int) (b_0:List UInt8) (b_1:Int) (b_2:Int) (b_3:Int):mC prog 100 145 (.agg [.str a_0,.int .i64 a_1,.int .i64 a_2,.int .i64 a_3]) (.agg [.str b_0,.int .i64 b_1,.int .i64 b_2,.int .i64 b_3])=.ok ((a_0 == b_0)&&decide (a_1=b_1)&&decide (a_2=b_2)&&decide (a_3=b_3)):=by
 refine (congrFun (congrFun (congrFun (congrFun (congrFun (congrFun (congrFun (congrFun aYl a_0) a_1) a_2) a_3) b_0) b_1) b_2) b_3).trans ?_
 simp only [iS,dE,Bool.and_true,Bool.and_assoc]
theorem bC4:(fun a b=>aL prog 145 (.agg a) (.agg b))=fun _ _=>true:=by kernel_rfl
theorem aYm:(fun (a_0:List UInt8) (a_1:List UInt8) (a_2:Int) (a_3:Int) (b_0:List UInt8) (b_1:List UInt8) (b_2:Int) (b_3:Int)=>mC prog 100 201 (.agg [.str a_0,.str a_1,.int .i64 a_2,.int .i64 a_3]) (.agg [.str b_0,.str b_1,.int .i64 b_2,.int .i64 b_3]))=fun a_0 a_1 a_2 a_3 b_0 b_1 b_2 b_3=>(eX (.ok (mW a_0 b_0)) (eX (.ok (mW a_1 b_1)) (eX (.ok (decide (a_2=b_2))) (eX (.ok (decide (a_3=b_3))) (.ok true))))):=by kernel_rfl
theorem bC5 (a_0:List UInt8) (a_1:List UInt8) (a_2:Int) (a_3:Int) (b_0:List UInt8) (b_1:List UInt8) (b_2:Int) (b_3:Int):mC prog 100 201 (.agg [.str a_0,.str a_1,.int .i64 a_2,.int .i64 a_3]) (.agg [.str b_0,.str b_1,.int .i64 b_2,.int .i64 b_3])=.ok ((a_0 == b_0)&&(a_1 == b_1)&&decide (a_2=b_2)&&decide (a_3=b_3)):=by
 refine (congrFun (congrFun (congrFun (congrFun (congrFun (congrFun (congrFun (congrFun aYm a_0) a_1) a_2) a_3) b_0) b_1) b_2) b_3).trans ?_
 simp only [iS,dE,Bool.and_true,Bool.and_assoc]
theorem bC6:(fun a b=>aL prog 201 (.agg a) (.agg b))=fun _ _=>true:=by kernel_rfl
theorem aYn:(fun (a_0:Int) (a_1:Int) (b_0:Int) (b_1:Int)=>mC prog 100 346 (.agg [.int .i64 a_0,.int .u64 a_1]) (.agg [.int .i64 b_0,.int .u64 b_1]))=fun a_0 a_1 b_0 b_1=>(eX (.ok (decide (a_0=b_0))) (eX (.ok (decide (a_1=b_1))) (.ok true))):=by kernel_rfl
theorem bC7 (a_0:Int) (a_1:Int) (b_0:Int) (b_1:Int):mC prog 100 346 (.agg [.int .i64 a_0,.int .u64 a_1]) (.agg [.int .i64 b_0,.int .u64 b_1])=.ok (decide (a_0=b_0)&&decide (a_1=b_1)):=by
 refine (congrFun (congrFun (congrFun (congrFun aYn a_0) a_1) b_0) b_1).trans ?_
 simp only [iS,dE,Bool.and_true,Bool.and_assoc]
theorem bC8:(fun a b=>aL prog 346 (.agg a) (.agg b))=fun _ _=>true:=by kernel_rfl
theorem bC9:(fun (a_0:Int) (a_1:Int) (a_2:Int) (b_0:Int) (b_1:Int) (b_2:Int)=>mC prog 100 48 (.agg [.int .i64 a_0,.int .i64 a_1,.int .i64 a_2]) (.agg [.int .i64 b_0,.int .i64 b_1,.int .i64 b_2]))=fun a_0 a_1 a_2 b_0 b_1 b_2=>(eX (.ok (decide (a_0=b_0))) (eX (.ok (decide (a_1=b_1))) (eX (.ok (decide (a_2=b_2))) (.ok true)))):=by kernel_rfl
theorem bH8 (a_0:Int) (a_1:Int) (a_2:Int) (b_0:Int) (b_1:Int) (b_2:Int):mC prog 100 48 (.agg [.int .i64 a_0,.int .i64 a_1,.int .i64 a_2]) (.agg [.int .i64 b_0,.int .i64 b_1,.int .i64 b_2])=.ok (decide (a_0=b_0)&&decide (a_1=b_1)&&decide (a_2=b_2)):=by
 refine (congrFun (congrFun (congrFun (congrFun (congrFun (congrFun bC9 a_0) a_1) a_2) b_0) b_1) b_2).trans ?_
 simp only [iS,dE,Bool.and_true,Bool.and_assoc]
theorem bH9:(fun a b=>aL prog 48 (.agg a) (.agg b))=fun _ _=>true:=by kernel_rfl
theorem bCa:(fun (a_0:Int) (a_1:Int) (a_2:Int) (b_0:Int) (b_1:Int) (b_2:Int)=>mC prog 100 52 (.agg [.int .i64 a_0,.int .i64 a_1,.int .i64 a_2]) (.agg [.int .i64 b_0,.int .i64 b_1,.int .i64 b_2]))=fun a_0 a_1 a_2 b_0 b_1 b_2=>(eX (.ok (decide (a_0=b_0))) (eX (.ok (decide (a_1=b_1))) (eX (.ok (decide (a_2=b_2))) (.ok true)))):=by kernel_rfl
theorem bHa (a_0:Int) (a_1:Int) (a_2:Int) (b_0:Int) (b_1:Int) (b_2:Int):mC prog 100 52 (.agg [.int .i64 a_0,.int .i64 a_1,.int .i64 a_2]) (.agg [.int .i64 b_0,.int .i64 b_1,.int .i64 b_2])=.ok (decide (a_0=b_0)&&decide (a_1=b_1)&&decide (a_2=b_2)):=by
 refine (congrFun (congrFun (congrFun (congrFun (congrFun (congrFun bCa a_0) a_1) a_2) b_0) b_1) b_2).trans ?_
 simp only [iS,dE,Bool.and_true,Bool.and_assoc]
theorem bHb:(fun a b=>aL prog 52 (.agg a) (.agg b))=fun _ _=>true:=by kernel_rfl
theorem bCb:(fun (a_0:List UInt8) (a_1_0:Int) (a_1_1:Int) (a_1_2:Int) (a_2:Int) (b_0:List UInt8) (b_1_0:Int) (b_1_1:Int) (b_1_2:Int) (b_2:Int)=>mC prog 100 54 (.agg [.str a_0,.int .i64 a_1_0,.int .i64 a_1_1,.int .i64 a_1_2,.int .i64 a_2]) (.agg [.str b_0,.int .i64 b_1_0,.int .i64 b_1_1,.int .i64 b_1_2,.int .i64 b_2]))=fun a_0 a_1_0 a_1_1 a_1_2 a_2 b_0 b_1_0 b_1_1 b_1_2 b_2=>(eX (.ok (mW a_0 b_0)) (eX (eX (.ok (decide (a_1_0=b_1_0))) (eX (.ok (decide (a_1_1=b_1_1))) (eX (.ok (decide (a_1_2=b_1_2))) (.ok true)))) (eX (.ok (decide (a_2=b_2))) (.ok true)))):=by kernel_rfl
theorem bHc (a_0:List UInt8) (a_1_0:Int) (a_1_1:Int) (a_1_2:Int) (a_2:Int) (b_0:List UInt8) (b_1_0:Int) (b_1_1:Int) (b_1_2:Int) (b_2:Int):mC prog 100 54 (.agg [.str a_0,.int .i64 a_1_0,.int .i64 a_1_1,.int .i64 a_1_2,.int .i64 a_2]) (.agg [.str b_0,.int .i64 b_1_0,.int .i64 b_1_1,.int .i64 b_1_2,.int .i64 b_2])=.ok ((a_0 == b_0)&&decide (a_1_0=b_1_0)&&decide (a_1_1=b_1_1)&&decide (a_1_2=b_1_2)&&decide (a_2=b_2)):=by
 refine (congrFun (congrFun (congrFun (congrFun (congrFun (congrFun (congrFun (congrFun (congrFun (congrFun bCb a_0) a_1_0) a_1_1) a_1_2) a_2) b_0) b_1_0) b_1_1) b_1_2) b_2).trans ?_
 simp only [iS,dE,Bool.and_true,Bool.and_assoc]
theorem bHd:(fun a b=>aL prog 54 (.agg a) (.agg b))=fun _ _=>true:=by kernel_rfl
theorem bCc:(fun (a_0:List UInt8) (a_1:Int) (b_0:List UInt8) (b_1:Int)=>mC prog 100 57 (.agg [.str a_0,.int .i64 a_1]) (.agg [.str b_0,.int .i64 b_1]))=fun a_0 a_1 b_0 b_1=>(eX (.ok (mW a_0 b_0)) (eX (.ok (decide (a_1=b_1))) (.ok true))):=by kernel_rfl
theorem bHe (a_0:List UInt8) (a_1:Int) (b_0:List UInt8) (b_1:Int):mC prog 100 57 (.agg [.str a_0,.int .i64 a_1]) (.agg [.str b_0,.int .i64 b_1])=.ok ((a_0 == b_0)&&decide (a_1=b_1)):=by
 refine (congrFun (congrFun (congrFun (congrFun bCc a_0) a_1) b_0) b_1).trans ?_
 simp only [iS,dE,Bool.and_true,Bool.and_assoc]
theorem bHf:(fun a b=>aL prog 57 (.agg a) (.agg b))=fun _ _=>true:=by kernel_rfl
theorem bCd:(fun (a_0:List UInt8) (a_1:Int) (a_2:Int) (a_3:Int) (b_0:List UInt8) (b_1:Int) (b_2:Int) (b_3:Int)=>mC prog 100 76 (.agg [.str a_0,.int .i64 a_1,.int .i64 a_2,.int .i64 a_3]) (.agg [.str b_0,.int .i64 b_1,.int .i64 b_2,.int .i64 b_3]))=fun a_0 a_1 a_2 a_3 b_0 b_1 b_2 b_3=>(eX (.ok (mW a_0 b_0)) (eX (.ok (decide (a_1=b_1))) (eX (.ok (decide (a_2=b_2))) (eX (.ok (decide (a_3=b_3))) (.ok true))))):=by kernel_rfl
theorem bHg (a_0:List UInt8) (a_1:Int) (a_2:Int) (a_3:Int) (b_0:List UInt8) (b_1:Int) (b_2:Int) (b_3:Int):mC prog 100 76 (.agg [.str a_0,.int .i64 a_1,.int .i64 a_2,.int .i64 a_3]) (.agg [.str b_0,.int .i64 b_1,.int .i64 b_2,.int .i64 b_3])=.ok ((a_0 == b_0)&&decide (a_1=b_1)&&decide (a_2=b_2)&&decide (a_3=b_3)):=by
 refine (congrFun (congrFun (congrFun (congrFun (congrFun (congrFun (congrFun (congrFun bCd a_0) a_1) a_2) a_3) b_0) b_1) b_2) b_3).trans ?_
 simp only [iS,dE,Bool.and_true,Bool.and_assoc]
theorem bHh:(fun a b=>aL prog 76 (.agg a) (.agg b))=fun _ _=>true:=by kernel_rfl
theorem bCe:(fun (a_0:List UInt8) (a_1:Int) (b_0:List UInt8) (b_1:Int)=>mC prog 100 90 (.agg [.str a_0,.int .i64 a_1]) (.agg [.str b_0,.int .i64 b_1]))=fun a_0 a_1 b_0 b_1=>(eX (.ok (mW a_0 b_0)) (eX (.ok (decide (a_1=b_1))) (.ok true))):=by kernel_rfl
theorem bHi (a_0:List UInt8) (a_1:Int) (b_0:List UInt8) (b_1:Int):mC prog 100 90 (.agg [.str a_0,.int .i64 a_1]) (.agg [.str b_0,.int .i64 b_1])=.ok ((a_0 == b_0)&&decide (a_1=b_1)):=by
 refine (congrFun (congrFun (congrFun (congrFun bCe a_0) a_1) b_0) b_1).trans ?_
 simp only [iS,dE,Bool.and_true,Bool.and_assoc]
theorem bHj:(fun a b=>aL prog 90 (.agg a) (.agg b))=fun _ _=>true:=by kernel_rfl
theorem aV9 (p:V):aA prog 126 p 0=advW 0 p:=aF (by kernel_rfl) p
theorem aVa (p:V):aA prog 126 p 1=advW 1 p:=aF (by kernel_rfl) p
theorem aVb (p:V):aA prog 126 p 2=advW 2 p:=aF (by kernel_rfl) p
theorem aVc (p:V):aA prog 126 p 3=advW 3 p:=aF (by kernel_rfl) p
theorem aVd (p:V):aA prog 132 p 0=advW 0 p:=aF (by kernel_rfl) p
theorem aVe (p:V):aA prog 132 p 1=advW 1 p:=aF (by kernel_rfl) p
theorem aVf (p:V):aA prog 132 p 2=advW 2 p:=aF (by kernel_rfl) p
theorem aVg (p:V):aA prog 142 p 0=advW 0 p:=aF (by kernel_rfl) p
theorem aVh (p:V):aA prog 142 p 1=advW 1 p:=aF (by kernel_rfl) p
theorem aVi (p:V):aA prog 142 p 2=advW 2 p:=aF (by kernel_rfl) p
theorem aVj (p:V):aA prog 145 p 0=advW 0 p:=aF (by kernel_rfl) p
theorem aVk (p:V):aA prog 145 p 1=advW 1 p:=aF (by kernel_rfl) p
theorem aVl (p:V):aA prog 145 p 2=advW 2 p:=aF (by kernel_rfl) p
theorem aVm (p:V):aA prog 145 p 3=advW 3 p:=aF (by kernel_rfl) p
theorem aVn (p:V):aA prog 160 p 0=advW 0 p:=aF (by kernel_rfl) p
theorem aVo (p:V):aA prog 201 p 0=advW 0 p:=aF (by kernel_rfl) p
theorem aVp (p:V):aA prog 201 p 1=advW 1 p:=aF (by kernel_rfl) p
theorem aVq (p:V):aA prog 201 p 2=advW 2 p:=aF (by kernel_rfl) p
theorem aVr (p:V):aA prog 201 p 3=advW 3 p:=aF (by kernel_rfl) p
theorem aVs (p:V):aA prog 207 p 0=advW 0 p:=aF (by kernel_rfl) p
theorem aVt (p:V):aA prog 207 p 1=advW 17 p:=aF (by kernel_rfl) p
theorem aVu (p:V):aA prog 207 p 2=advW 18 p:=aF (by kernel_rfl) p
theorem aVv (p:V):aA prog 207 p 3=advW 19 p:=aF (by kernel_rfl) p
theorem aVw (p:V):aA prog 207 p 4=advW 20 p:=aF (by kernel_rfl) p
theorem aVx (p:V):aA prog 220 p 1=advW 1 p:=aF (by kernel_rfl) p
theorem aVy (p:V):aA prog 220 p 2=advW 2 p:=aF (by kernel_rfl) p
theorem aVz (p:V):aA prog 225 p 0=advW 0 p:=aF (by kernel_rfl) p
theorem aW0 (p:V):aA prog 225 p 1=advW 1 p:=aF (by kernel_rfl) p
theorem aW1 (p:V):aA prog 225 p 2=advW 2 p:=aF (by kernel_rfl) p
theorem aW2 (p:V):aA prog 287 p 0=advW 0 p:=aF (by kernel_rfl) p
theorem aW3 (p:V):aA prog 287 p 1=advW 1 p:=aF (by kernel_rfl) p
theorem aYo (p:V):aA prog 30 p 0=advW 0 p:=aF (by kernel_rfl) p
theorem aYp (p:V):aA prog 30 p 1=advW 1 p:=aF (by kernel_rfl) p
theorem aYq (p:V):aA prog 30 p 2=advW 2 p:=aF (by kernel_rfl) p
theorem aYr (p:V):aA prog 30 p 3=advW 3 p:=aF (by kernel_rfl) p
theorem aYs (p:V):aA prog 30 p 4=advW 4 p:=aF (by kernel_rfl) p
theorem aYt (p:V):aA prog 30 p 5=advW 5 p:=aF (by kernel_rfl) p
theorem aW4 (p:V):aA prog 346 p 0=advW 0 p:=aF (by kernel_rfl) p
theorem aW5 (p:V):aA prog 346 p 1=advW 1 p:=aF (by kernel_rfl) p
theorem aYu (p:V):aA prog 48 p 0=advW 0 p:=aF (by kernel_rfl) p
theorem aYv (p:V):aA prog 48 p 1=advW 1 p:=aF (by kernel_rfl) p
theorem aYw (p:V):aA prog 48 p 2=advW 2 p:=aF (by kernel_rfl) p
theorem aYx (p:V):aA prog 52 p 0=advW 0 p:=aF (by kernel_rfl) p
theorem aYy (p:V):aA prog 52 p 1=advW 1 p:=aF (by kernel_rfl) p
theorem aYz (p:V):aA prog 52 p 2=advW 2 p:=aF (by kernel_rfl) p
theorem aZ0 (p:V):aA prog 54 p 0=advW 0 p:=aF (by kernel_rfl) p
theorem aZ1 (p:V):aA prog 54 p 1=advW 1 p:=aF (by kernel_rfl) p
theorem aZ2 (p:V):aA prog 54 p 2=advW 4 p:=aF (by kernel_rfl) p
theorem aZ3 (p:V):aA prog 57 p 0=advW 0 p:=aF (by kernel_rfl) p
theorem aZ4 (p:V):aA prog 57 p 1=advW 1 p:=aF (by kernel_rfl) p
theorem aZ5 (p:V):aA prog 59 p 0=advW 0 p:=aF (by kernel_rfl) p
theorem aZ6 (p:V):aA prog 59 p 1=advW 1 p:=aF (by kernel_rfl) p
theorem aZ7 (p:V):aA prog 59 p 2=advW 2 p:=aF (by kernel_rfl) p
theorem aZ8 (p:V):aA prog 59 p 3=advW 3 p:=aF (by kernel_rfl) p
theorem aZ9 (p:V):aA prog 59 p 4=advW 8 p:=aF (by kernel_rfl) p
theorem aZa (p:V):aA prog 59 p 5=advW 11 p:=aF (by kernel_rfl) p
theorem aZb (p:V):aA prog 59 p 6=advW 12 p:=aF (by kernel_rfl) p
theorem aZc (p:V):aA prog 59 p 7=advW 14 p:=aF (by kernel_rfl) p
theorem aZd (p:V):aA prog 61 p 0=advW 0 p:=aF (by kernel_rfl) p
theorem aZe (p:V):aA prog 61 p 1=advW 1 p:=aF (by kernel_rfl) p
theorem aZf (p:V):aA prog 61 p 2=advW 2 p:=aF (by kernel_rfl) p
theorem aZg (p:V):aA prog 76 p 0=advW 0 p:=aF (by kernel_rfl) p
theorem aZh (p:V):aA prog 76 p 1=advW 1 p:=aF (by kernel_rfl) p
theorem aZi (p:V):aA prog 76 p 2=advW 2 p:=aF (by kernel_rfl) p
theorem aZj (p:V):aA prog 76 p 3=advW 3 p:=aF (by kernel_rfl) p
theorem aZk (p:V):aA prog 77 p 0=advW 0 p:=aF (by kernel_rfl) p
theorem aZl (p:V):aA prog 77 p 1=advW 1 p:=aF (by kernel_rfl) p
theorem aZm (p:V):aA prog 77 p 2=advW 2 p:=aF (by kernel_rfl) p
theorem aZn (p:V):aA prog 77 p 3=advW 3 p:=aF (by kernel_rfl) p
theorem aZo (p:V):aA prog 82 p 0=advW 0 p:=aF (by kernel_rfl) p
theorem aZp (p:V):aA prog 82 p 1=advW 1 p:=aF (by kernel_rfl) p
theorem aZq (p:V):aA prog 82 p 2=advW 2 p:=aF (by kernel_rfl) p
theorem aZr (p:V):aA prog 82 p 3=advW 3 p:=aF (by kernel_rfl) p
theorem aZs (p:V):aA prog 84 p 0=advW 0 p:=aF (by kernel_rfl) p
theorem aZt (p:V):aA prog 84 p 1=advW 2 p:=aF (by kernel_rfl) p
theorem aZu (p:V):aA prog 84 p 2=advW 5 p:=aF (by kernel_rfl) p
theorem aZv (p:V):aA prog 84 p 3=advW 9 p:=aF (by kernel_rfl) p
theorem aZw (p:V):aA prog 84 p 4=advW 11 p:=aF (by kernel_rfl) p
theorem aZx (p:V):aA prog 90 p 0=advW 0 p:=aF (by kernel_rfl) p
theorem aZy (p:V):aA prog 90 p 1=advW 1 p:=aF (by kernel_rfl) p
theorem aZz (p:V):aA prog 99 p 0=advW 0 p:=aF (by kernel_rfl) p
theorem bA0 (p:V):aA prog 99 p 1=advW 17 p:=aF (by kernel_rfl) p
theorem bA1 (p:V):aA prog 99 p 2=advW 18 p:=aF (by kernel_rfl) p
theorem bA2 (p:V):aA prog 99 p 3=advW 19 p:=aF (by kernel_rfl) p
theorem bA3 (p:V):aA prog 99 p 4=advW 20 p:=aF (by kernel_rfl) p
theorem bCf (x i:V):aC prog 102 x i=cP 23 x i:=bP (by kernel_rfl) x i
theorem bCg (x i:V):aC prog 114 x i=cP 3 x i:=bP (by kernel_rfl) x i
theorem bHk (x i:V):aC prog 22 x i=cP 1 x i:=bP (by kernel_rfl) x i
theorem bHl (x i:V):aC prog 24 x i=cP 5 x i:=bP (by kernel_rfl) x i
theorem bHm (x i:V):aC prog 25 x i=cP 4 x i:=bP (by kernel_rfl) x i
theorem bHn (x i:V):aC prog 26 x i=cP 12 x i:=bP (by kernel_rfl) x i
theorem bHo (x i:V):aC prog 27 x i=cP 2 x i:=bP (by kernel_rfl) x i
theorem bHp (x i:V):aC prog 28 x i=cP 5 x i:=bP (by kernel_rfl) x i
theorem bCh (x i:V):aC prog 361 x i=cP 1 x i:=bP (by kernel_rfl) x i
theorem bCi (x i:V):aC prog 364 x i=cP 1 x i:=bP (by kernel_rfl) x i
theorem bHq (x i:V):aC prog 44 x i=cP 17 x i:=bP (by kernel_rfl) x i
theorem bHr (x i:V):aC prog 55 x i=cP 4 x i:=bP (by kernel_rfl) x i
theorem bHs (x i:V):aC prog 62 x i=cP 3 x i:=bP (by kernel_rfl) x i
theorem bHt (x i:V):aC prog 68 x i=cP 4 x i:=bP (by kernel_rfl) x i
theorem bHu (x i:V):aC prog 71 x i=cP 4 x i:=bP (by kernel_rfl) x i
theorem bHv (x i:V):aC prog 80 x i=cP 4 x i:=bP (by kernel_rfl) x i
theorem bHw (x i:V):aC prog 96 x i=cP 1 x i:=bP (by kernel_rfl) x i
theorem bHx (x i:V):aC prog 97 x i=cP 23 x i:=bP (by kernel_rfl) x i
theorem bCj (p:V) (S:St):aB prog 126 p S=bB (some 4) p S:=bL (by kernel_rfl) p S
theorem bCk (p:V) (S:St):aB prog 132 p S=bB (some 5) p S:=bL (by kernel_rfl) p S
theorem bCl (p:V) (S:St):aB prog 145 p S=bB (some 4) p S:=bL (by kernel_rfl) p S
theorem ld2 (p:V) (S:St):aB prog 2 p S=bB none p S:=bL (by kernel_rfl) p S
theorem bCm (p:V) (S:St):aB prog 201 p S=bB (some 4) p S:=bL (by kernel_rfl) p S
theorem bCn (p:V) (S:St):aB prog 212 p S=bB (some 1) p S:=bL (by kernel_rfl) p S
theorem bHz (p:V) (S:St):aB prog 22 p S=bB none p S:=bL (by kernel_rfl) p S
theorem bCo (p:V) (S:St):aB prog 220 p S=bB (some 3) p S:=bL (by kernel_rfl) p S
theorem bCp (p:V) (S:St):aB prog 229 p S=bB none p S:=bL (by kernel_rfl) p S
theorem bCq (p:V) (S:St):aB prog 232 p S=bB none p S:=bL (by kernel_rfl) p S
theorem bI0 (p:V) (S:St):aB prog 24 p S=bB none p S:=bL (by kernel_rfl) p S
theorem bI1 (p:V) (S:St):aB prog 25 p S=bB none p S:=bL (by kernel_rfl) p S
theorem bI2 (p:V) (S:St):aB prog 26 p S=bB none p S:=bL (by kernel_rfl) p S
theorem bI3 (p:V) (S:St):aB prog 27 p S=bB none p S:=bL (by kernel_rfl) p S
theorem bI4 (p:V) (S:St):aB prog 28 p S=bB none p S:=bL (by kernel_rfl) p S
theorem ld3 (p:V) (S:St):aB prog 3 p S=bB none p S:=bL (by kernel_rfl) p S
theorem bI6 (p:V) (S:St):aB prog 30 p S=bB (some 6) p S:=bL (by kernel_rfl) p S
theorem bI7 (p:V) (S:St):aB prog 31 p S=bB none p S:=bL (by kernel_rfl) p S
theorem bCr (p:V) (S:St):aB prog 346 p S=bB (some 2) p S:=bL (by kernel_rfl) p S
theorem bCs (p:V) (S:St):aB prog 349 p S=bB none p S:=bL (by kernel_rfl) p S
theorem ld4 (p:V) (S:St):aB prog 4 p S=bB none p S:=bL (by kernel_rfl) p S
theorem bI8 (p:V) (S:St):aB prog 48 p S=bB (some 3) p S:=bL (by kernel_rfl) p S
theorem ld5 (p:V) (S:St):aB prog 5 p S=bB none p S:=bL (by kernel_rfl) p S
theorem bI9 (p:V) (S:St):aB prog 52 p S=bB (some 3) p S:=bL (by kernel_rfl) p S
theorem bIa (p:V) (S:St):aB prog 54 p S=bB (some 5) p S:=bL (by kernel_rfl) p S
theorem bIb (p:V) (S:St):aB prog 55 p S=bB none p S:=bL (by kernel_rfl) p S
theorem bIc (p:V) (S:St):aB prog 57 p S=bB (some 2) p S:=bL (by kernel_rfl) p S
theorem bId (p:V) (S:St):aB prog 59 p S=bB (some 15) p S:=bL (by kernel_rfl) p S
theorem bIe (p:V) (S:St):aB prog 61 p S=bB (some 17) p S:=bL (by kernel_rfl) p S
theorem bIf (p:V) (S:St):aB prog 76 p S=bB (some 4) p S:=bL (by kernel_rfl) p S
theorem bIg (p:V) (S:St):aB prog 80 p S=bB none p S:=bL (by kernel_rfl) p S
theorem bIh (p:V) (S:St):aB prog 82 p S=bB (some 4) p S:=bL (by kernel_rfl) p S
theorem bIi (p:V) (S:St):aB prog 84 p S=bB (some 12) p S:=bL (by kernel_rfl) p S
theorem ld9 (p:V) (S:St):aB prog 9 p S=bB none p S:=bL (by kernel_rfl) p S
theorem bIj (p:V) (S:St):aB prog 90 p S=bB (some 2) p S:=bL (by kernel_rfl) p S
theorem bIk (p:V) (S:St):aB prog 99 p S=bB (some 23) p S:=bL (by kernel_rfl) p S
theorem bA4 (x:V) (S:St):bF prog 102 x S=lenW x:=eC (by kernel_rfl) x S
theorem bA5 (x:V) (S:St):bF prog 114 x S=lenW x:=eC (by kernel_rfl) x S
theorem bCt (x:V) (S:St):bF prog 22 x S=lenW x:=eC (by kernel_rfl) x S
theorem bCu (x:V) (S:St):bF prog 24 x S=lenW x:=eC (by kernel_rfl) x S
theorem bCv (x:V) (S:St):bF prog 25 x S=lenW x:=eC (by kernel_rfl) x S
theorem bCw (x:V) (S:St):bF prog 26 x S=lenW x:=eC (by kernel_rfl) x S
theorem bCx (x:V) (S:St):bF prog 27 x S=lenW x:=eC (by kernel_rfl) x S
theorem bCy (x:V) (S:St):bF prog 28 x S=lenW x:=eC (by kernel_rfl) x S
theorem bA6 (x:V) (S:St):bF prog 361 x S=lenW x:=eC (by kernel_rfl) x S
theorem bA7 (x:V) (S:St):bF prog 364 x S=lenW x:=eC (by kernel_rfl) x S
theorem bCz (x:V) (S:St):bF prog 44 x S=lenW x:=eC (by kernel_rfl) x S
theorem bD0 (x:V) (S:St):bF prog 55 x S=lenW x:=eC (by kernel_rfl) x S
theorem bD1 (x:V) (S:St):bF prog 62 x S=lenW x:=eC (by kernel_rfl) x S
theorem bD2 (x:V) (S:St):bF prog 68 x S=lenW x:=eC (by kernel_rfl) x S
theorem bD3 (x:V) (S:St):bF prog 71 x S=lenW x:=eC (by kernel_rfl) x S
theorem bD4 (x:V) (S:St):bF prog 80 x S=lenW x:=eC (by kernel_rfl) x S
theorem bIl (s:List UInt8) (S:St):bF prog 9 (.str s) S=.ok (.int .i64 s.length):=aM8 (by kernel_rfl) s S
theorem bD5 (x:V) (S:St):bF prog 96 x S=lenW x:=eC (by kernel_rfl) x S
theorem bD6 (x:V) (S:St):bF prog 97 x S=lenW x:=eC (by kernel_rfl) x S
theorem bIm (a ver off len : Nat) (lo hi : Option V) : cI prog 22 (.sl a ver 1 off len) lo hi = (match cH len lo hi with
      | .ok (l, h) => .ok (.sl a ver 1 (off + l) (h - l))
      | .error e => .error e) := eW (by kernel_rfl) a ver off len lo hi
theorem bIn (a ver off len : Nat) (lo hi : Option V) : cI prog 24 (.sl a ver 5 off len) lo hi = (match cH len lo hi with
      | .ok (l, h) => .ok (.sl a ver 5 (off + l) (h - l))
      | .error e => .error e) := eW (by kernel_rfl) a ver off len lo hi
theorem bIo (a ver off len : Nat) (lo hi : Option V) : cI prog 25 (.sl a ver 4 off len) lo hi = (match cH len lo hi with
      | .ok (l, h) => .ok (.sl a ver 4 (off + l) (h - l))
      | .error e => .error e) := eW (by kernel_rfl) a ver off len lo hi
theorem bIp (a ver off len : Nat) (lo hi : Option V) : cI prog 26 (.sl a ver 12 off len) lo hi = (match cH len lo hi with
      | .ok (l, h) => .ok (.sl a ver 12 (off + l) (h - l))
      | .error e => .error e) := eW (by kernel_rfl) a ver off len lo hi
theorem bD7 (es : List (List V)) (hl : iM 12 es = true) (lo hi : Option V) : cI prog 26 (.imm es) lo hi = (match cH es.length lo hi with
      | .ok (l, h) => .ok (.imm ((es.take h).drop l))
      | .error e => .error e) := aB2 (by kernel_rfl) es hl lo hi
theorem bIq (a ver off len : Nat) (lo hi : Option V) : cI prog 27 (.sl a ver 2 off len) lo hi = (match cH len lo hi with
      | .ok (l, h) => .ok (.sl a ver 2 (off + l) (h - l))
      | .error e => .error e) := eW (by kernel_rfl) a ver off len lo hi
theorem bIr (a ver off len : Nat) (lo hi : Option V) : cI prog 28 (.sl a ver 5 off len) lo hi = (match cH len lo hi with
      | .ok (l, h) => .ok (.sl a ver 5 (off + l) (h - l))
      | .error e => .error e) := eW (by kernel_rfl) a ver off len lo hi
theorem bIs (a ver off len : Nat) (lo hi : Option V) : cI prog 55 (.sl a ver 4 off len) lo hi = (match cH len lo hi with
      | .ok (l, h) => .ok (.sl a ver 4 (off + l) (h - l))
      | .error e => .error e) := eW (by kernel_rfl) a ver off len lo hi
theorem bD8 (es : List (List V)) (hl : iM 4 es = true) (lo hi : Option V) : cI prog 55 (.imm es) lo hi = (match cH es.length lo hi with
      | .ok (l, h) => .ok (.imm ((es.take h).drop l))
      | .error e => .error e) := aB2 (by kernel_rfl) es hl lo hi
theorem bIt (a ver off len : Nat) (lo hi : Option V) : cI prog 71 (.sl a ver 4 off len) lo hi = (match cH len lo hi with
      | .ok (l, h) => .ok (.sl a ver 4 (off + l) (h - l))
      | .error e => .error e) := eW (by kernel_rfl) a ver off len lo hi
theorem bIu (a ver off len : Nat) (lo hi : Option V) : cI prog 80 (.sl a ver 4 off len) lo hi = (match cH len lo hi with
      | .ok (l, h) => .ok (.sl a ver 4 (off + l) (h - l))
      | .error e => .error e) := eW (by kernel_rfl) a ver off len lo hi
theorem bIv (a ver off len : Nat) (lo hi : Option V) : cI prog 96 (.sl a ver 1 off len) lo hi = (match cH len lo hi with
      | .ok (l, h) => .ok (.sl a ver 1 (off + l) (h - l))
      | .error e => .error e) := eW (by kernel_rfl) a ver off len lo hi
theorem bIw (a ver off len : Nat) (lo hi : Option V) : cI prog 97 (.sl a ver 23 off len) lo hi = (match cH len lo hi with
      | .ok (l, h) => .ok (.sl a ver 23 (off + l) (h - l))
      | .error e => .error e) := eW (by kernel_rfl) a ver off len lo hi
theorem bD9 (p x:V) (S:St):aG prog 126 p x S=aV 4 p x S:=bJ (by kernel_rfl) p x S
theorem bDa (p x:V) (S:St):aG prog 132 p x S=aV 5 p x S:=bJ (by kernel_rfl) p x S
theorem bDb (p x:V) (S:St):aG prog 145 p x S=aV 4 p x S:=bJ (by kernel_rfl) p x S
theorem bDc (p x:V) (S:St):aG prog 201 p x S=aV 4 p x S:=bJ (by kernel_rfl) p x S
theorem bDd (p x:V) (S:St):aG prog 212 p x S=aV 1 p x S:=bJ (by kernel_rfl) p x S
theorem bIx (p x:V) (S:St):aG prog 22 p x S=aV 1 p x S:=bJ (by kernel_rfl) p x S
theorem bDe (p x:V) (S:St):aG prog 220 p x S=aV 3 p x S:=bJ (by kernel_rfl) p x S
theorem bDf (p x:V) (S:St):aG prog 232 p x S=aV 1 p x S:=bJ (by kernel_rfl) p x S
theorem bIy (p x:V) (S:St):aG prog 24 p x S=aV 1 p x S:=bJ (by kernel_rfl) p x S
theorem bIz (p x:V) (S:St):aG prog 25 p x S=aV 1 p x S:=bJ (by kernel_rfl) p x S
theorem bJ0 (p x:V) (S:St):aG prog 26 p x S=aV 1 p x S:=bJ (by kernel_rfl) p x S
theorem bJ1 (p x:V) (S:St):aG prog 27 p x S=aV 1 p x S:=bJ (by kernel_rfl) p x S
theorem bJ2 (p x:V) (S:St):aG prog 28 p x S=aV 1 p x S:=bJ (by kernel_rfl) p x S
theorem st3 (p x:V) (S:St):aG prog 3 p x S=aV 1 p x S:=bJ (by kernel_rfl) p x S
theorem bJ3 (p x:V) (S:St):aG prog 30 p x S=aV 6 p x S:=bJ (by kernel_rfl) p x S
theorem bJ4 (p x:V) (S:St):aG prog 31 p x S=aV 1 p x S:=bJ (by kernel_rfl) p x S
theorem bDg (p x:V) (S:St):aG prog 346 p x S=aV 2 p x S:=bJ (by kernel_rfl) p x S
theorem st4 (p x:V) (S:St):aG prog 4 p x S=aV 1 p x S:=bJ (by kernel_rfl) p x S
theorem bJ5 (p x:V) (S:St):aG prog 48 p x S=aV 3 p x S:=bJ (by kernel_rfl) p x S
theorem st5 (p x:V) (S:St):aG prog 5 p x S=aV 1 p x S:=bJ (by kernel_rfl) p x S
theorem bJ6 (p x:V) (S:St):aG prog 52 p x S=aV 3 p x S:=bJ (by kernel_rfl) p x S
theorem bJ7 (p x:V) (S:St):aG prog 54 p x S=aV 5 p x S:=bJ (by kernel_rfl) p x S
theorem bJ8 (p x:V) (S:St):aG prog 55 p x S=aV 1 p x S:=bJ (by kernel_rfl) p x S
theorem bJ9 (p x:V) (S:St):aG prog 57 p x S=aV 2 p x S:=bJ (by kernel_rfl) p x S
theorem bJa (p x:V) (S:St):aG prog 59 p x S=aV 15 p x S:=bJ (by kernel_rfl) p x S
theorem bJb (p x:V) (S:St):aG prog 61 p x S=aV 17 p x S:=bJ (by kernel_rfl) p x S
theorem bJc (p x:V) (S:St):aG prog 80 p x S=aV 1 p x S:=bJ (by kernel_rfl) p x S
theorem bJd (p x:V) (S:St):aG prog 82 p x S=aV 4 p x S:=bJ (by kernel_rfl) p x S
theorem bJe (p x:V) (S:St):aG prog 84 p x S=aV 12 p x S:=bJ (by kernel_rfl) p x S
theorem st9 (p x:V) (S:St):aG prog 9 p x S=aV 1 p x S:=bJ (by kernel_rfl) p x S
theorem bJf (p x:V) (S:St):aG prog 90 p x S=aV 2 p x S:=bJ (by kernel_rfl) p x S
theorem bJg (p x:V) (S:St):aG prog 99 p x S=aV 23 p x S:=bJ (by kernel_rfl) p x S
def dVl:List Nat:=[3,4,5,6,7,8,9,10,11,12,13,14,15,16,17,18,19,21,22,23,24,25,26,27,28,29,30,31,32,33,34,35,36,37,38,40,41,42,43,44,45,46,47,48,49,50,51,52,53,54,55,56,57,58,59,62,64,68,69,70,73,74,75,76,77,78,80,81,82,83,84,85,86,87,88,89,90,91,92,93,94,95,96,97,98,99,100,101,103,104,105,107,108,109,110,111,112,113,114,115,116,117,118,119,120,121,122,123,124,126,127,128,129,130,131,132,133,134,135,136,137,138,139,140,141,142,143,144,145,146,147,148,150,151,152,153,155,156,157,158,159,160,161,162,163,164,165,166,167,168,169,170,171,172,173,174,175,177,178,182,185,186,187,188,189,190,191,192,193,194,195,196,197,198,199,200,201,203,204,205,206,207,208,209,210,211,212,213,214,215,216,217,218,219,220,222,223,224,225,226,227,228,229,231,232,233,236,238,241,242,243,244,245,246,249,250,251,252,253,254,258,260,263,268,271,273,278,279,286,287,307,308,309,310,311,312,313,314]
def dOl:List (Nat×List Nat):=[(235,[0]),(102,[2])]
noncomputable def tX:eS:=rF prog dSp aRg dVl dOl
noncomputable abbrev C:aD:=W prog tX
abbrev Fv (f:Nat) (args:List V) (v:V):Prop:=Go.AM.Fn prog tX f args v
abbrev Fr (f:Nat) (mk:Nat→List V) (n:Nat) (pre:List V) (v:V) (post:List V):Prop:=Go.AM.FnR prog tX f mk 0 n [pre] v [post]
theorem t10 (C:aD) (a0 a1 a2:V) (S:St) (K:KW):aM prog C (bD 10) (bE 10) 10 [a0,a1,a2] S K=m10 C a0 a1 a2 S K:=congrFun (congrFun (congrFun (congrFun (congrFun (congrFun aXu C) a0) a1) a2) S) K
theorem v10 {a0 a1 a2:V} {v:V} (hc:cloVs [a0,a1,a2]=true) (h:m10 C a0 a1 a2 ⟨0,.nil⟩ fun v0 S0=>bZ S0 v0=.ok v):Fv 10 [a0,a1,a2] v:=Go.AM.Fn.of (p:=bD 10) (lv:=bE 10) (by kernel_rfl) hc (by rw [t10];exact h)
theorem t24 (C:aD) (a0:V) (S:St) (K:KW):aM prog C (bD 24) (bE 24) 24 [a0] S K=m24 C a0 S K:=congrFun (congrFun (congrFun (congrFun aXv C) a0) S) K
theorem v24 {a0:V} {v:V} (hc:cloVs [a0]=true) (h:m24 C a0 ⟨0,.nil⟩ fun v0 S0=>bZ S0 v0=.ok v):Fv 24 [a0] v:=Go.AM.Fn.of (p:=bD 24) (lv:=bE 24) (by kernel_rfl) hc (by rw [t24];exact h)
theorem bJh:tX 24=some (.val (bD 24)):=by kernel_rfl
theorem t30 (C:aD) (a0 a1:V) (S:St) (K:KW):aM prog C (bD 30) (bE 30) 30 [a0,a1] S K=m30 C a0 a1 S K:=congrFun (congrFun (congrFun (congrFun (congrFun aXw C) a0) a1) S) K
theorem v30 {a0 a1:V} {v:V} (hc:cloVs [a0,a1]=true) (h:m30 C a0 a1 ⟨0,.nil⟩ fun v0 S0=>bZ S0 v0=.ok v):Fv 30 [a0,a1] v:=Go.AM.Fn.of (p:=bD 30) (lv:=bE 30) (by kernel_rfl) hc (by rw [t30];exact h)
theorem t31 (C:aD) (S:St) (K:KW):aM prog C (bD 31) (bE 31) 31 [] S K=m31 C S K:=congrFun (congrFun (congrFun aXx C) S) K
theorem v31 {v:V} (hc:cloVs []=true) (h:m31 C ⟨0,.nil⟩ fun v0 S0=>bZ S0 v0=.ok v):Fv 31 [] v:=Go.AM.Fn.of (p:=bD 31) (lv:=bE 31) (by kernel_rfl) hc (by rw [t31];exact h)
theorem t33 (C:aD) (a0 a1:V) (S:St) (K:KW):aM prog C (bD 33) (bE 33) 33 [a0,a1] S K=m33 C a0 a1 S K:=congrFun (congrFun (congrFun (congrFun (congrFun aXy C) a0) a1) S) K
theorem v33 {a0 a1:V} {v:V} (hc:cloVs [a0,a1]=true) (h:m33 C a0 a1 ⟨0,.nil⟩ fun v0 S0=>bZ S0 v0=.ok v):Fv 33 [a0,a1] v:=Go.AM.Fn.of (p:=bD 33) (lv:=bE 33) (by kernel_rfl) hc (by rw [t33];exact h)
theorem bJi:tX 33=some (.val (bD 33)):=by kernel_rfl
theorem t35 (C:aD) (a0 a1:V) (S:St) (K:KW):aM prog C (bD 35) (bE 35) 35 [a0,a1] S K=m35 C a0 a1 S K:=congrFun (congrFun (congrFun (congrFun (congrFun aXz C) a0) a1) S) K
theorem v35 {a0 a1:V} {v:V} (hc:cloVs [a0,a1]=true) (h:m35 C a0 a1 ⟨0,.nil⟩ fun v0 S0=>bZ S0 v0=.ok v):Fv 35 [a0,a1] v:=Go.AM.Fn.of (p:=bD 35) (lv:=bE 35) (by kernel_rfl) hc (by rw [t35];exact h)
theorem bJj:tX 35=some (.val (bD 35)):=by kernel_rfl
theorem t40 (C:aD) (a0 a1 a2:V) (S:St) (K:KW):aM prog C (bD 40) (bE 40) 40 [a0,a1,a2] S K=m40 C a0 a1 a2 S K:=congrFun (congrFun (congrFun (congrFun (congrFun (congrFun aY0 C) a0) a1) a2) S) K
theorem v40 {a0 a1 a2:V} {v:V} (hc:cloVs [a0,a1,a2]=true) (h:m40 C a0 a1 a2 ⟨0,.nil⟩ fun v0 S0=>bZ S0 v0=.ok v):Fv 40 [a0,a1,a2] v:=Go.AM.Fn.of (p:=bD 40) (lv:=bE 40) (by kernel_rfl) hc (by rw [t40];exact h)
theorem t42 (C:aD) (a0:V) (S:St) (K:KW):aM prog C (bD 42) (bE 42) 42 [a0] S K=m42 C a0 S K:=congrFun (congrFun (congrFun (congrFun aY1 C) a0) S) K
theorem v42 {a0:V} {v:V} (hc:cloVs [a0]=true) (h:m42 C a0 ⟨0,.nil⟩ fun v0 S0=>bZ S0 v0=.ok v):Fv 42 [a0] v:=Go.AM.Fn.of (p:=bD 42) (lv:=bE 42) (by kernel_rfl) hc (by rw [t42];exact h)
theorem bJk:tX 42=some (.val (bD 42)):=by kernel_rfl
theorem t44 (C:aD) (S:St) (K:KW):aM prog C (bD 44) (bE 44) 44 [] S K=m44 C S K:=congrFun (congrFun (congrFun aY2 C) S) K
theorem v44 {v:V} (hc:cloVs []=true) (h:m44 C ⟨0,.nil⟩ fun v0 S0=>bZ S0 v0=.ok v):Fv 44 [] v:=Go.AM.Fn.of (p:=bD 44) (lv:=bE 44) (by kernel_rfl) hc (by rw [t44];exact h)
theorem t46 (C:aD) (a0:V) (S:St) (K:KW):aM prog C (bD 46) (bE 46) 46 [a0] S K=m46 C a0 S K:=congrFun (congrFun (congrFun (congrFun aY3 C) a0) S) K
theorem v46 {a0:V} {v:V} (hc:cloVs [a0]=true) (h:m46 C a0 ⟨0,.nil⟩ fun v0 S0=>bZ S0 v0=.ok v):Fv 46 [a0] v:=Go.AM.Fn.of (p:=bD 46) (lv:=bE 46) (by kernel_rfl) hc (by rw [t46];exact h)
theorem t85 (C:aD) (a0:V) (S:St) (K:KW):aM prog C (bD 85) (bE 85) 85 [a0] S K=m85 C a0 S K:=congrFun (congrFun (congrFun (congrFun aY4 C) a0) S) K
theorem v85 {a0:V} {v:V} (hc:cloVs [a0]=true) (h:m85 C a0 ⟨0,.nil⟩ fun v0 S0=>bZ S0 v0=.ok v):Fv 85 [a0] v:=Go.AM.Fn.of (p:=bD 85) (lv:=bE 85) (by kernel_rfl) hc (by rw [t85];exact h)
theorem t86 (C:aD) (a0:V) (S:St) (K:KW):aM prog C (bD 86) (bE 86) 86 [a0] S K=m86 C a0 S K:=congrFun (congrFun (congrFun (congrFun aY5 C) a0) S) K
theorem v86 {a0:V} {v:V} (hc:cloVs [a0]=true) (h:m86 C a0 ⟨0,.nil⟩ fun v0 S0=>bZ S0 v0=.ok v):Fv 86 [a0] v:=Go.AM.Fn.of (p:=bD 86) (lv:=bE 86) (by kernel_rfl) hc (by rw [t86];exact h)
theorem t87 (C:aD) (a0:V) (S:St) (K:KW):aM prog C (bD 87) (bE 87) 87 [a0] S K=m87 C a0 S K:=congrFun (congrFun (congrFun (congrFun aY6 C) a0) S) K
theorem v87 {a0:V} {v:V} (hc:cloVs [a0]=true) (h:m87 C a0 ⟨0,.nil⟩ fun v0 S0=>bZ S0 v0=.ok v):Fv 87 [a0] v:=Go.AM.Fn.of (p:=bD 87) (lv:=bE 87) (by kernel_rfl) hc (by rw [t87];exact h)
theorem t88 (C:aD) (a0:V) (S:St) (K:KW):aM prog C (bD 88) (bE 88) 88 [a0] S K=m88 C a0 S K:=congrFun (congrFun (congrFun (congrFun aY7 C) a0) S) K
theorem v88 {a0:V} {v:V} (hc:cloVs [a0]=true) (h:m88 C a0 ⟨0,.nil⟩ fun v0 S0=>bZ S0 v0=.ok v):Fv 88 [a0] v:=Go.AM.Fn.of (p:=bD 88) (lv:=bE 88) (by kernel_rfl) hc (by rw [t88];exact h)
theorem t89 (C:aD) (a0:V) (S:St) (K:KW):aM prog C (bD 89) (bE 89) 89 [a0] S K=m89 C a0 S K:=congrFun (congrFun (congrFun (congrFun aY8 C) a0) S) K
theorem v89 {a0:V} {v:V} (hc:cloVs [a0]=true) (h:m89 C a0 ⟨0,.nil⟩ fun v0 S0=>bZ S0 v0=.ok v):Fv 89 [a0] v:=Go.AM.Fn.of (p:=bD 89) (lv:=bE 89) (by kernel_rfl) hc (by rw [t89];exact h)
theorem t90 (C:aD) (a0:V) (S:St) (K:KW):aM prog C (bD 90) (bE 90) 90 [a0] S K=m90 C a0 S K:=congrFun (congrFun (congrFun (congrFun aY9 C) a0) S) K
theorem v90 {a0:V} {v:V} (hc:cloVs [a0]=true) (h:m90 C a0 ⟨0,.nil⟩ fun v0 S0=>bZ S0 v0=.ok v):Fv 90 [a0] v:=Go.AM.Fn.of (p:=bD 90) (lv:=bE 90) (by kernel_rfl) hc (by rw [t90];exact h)
theorem t91 (C:aD) (a0 a1:V) (S:St) (K:KW):aM prog C (bD 91) (bE 91) 91 [a0,a1] S K=m91 C a0 a1 S K:=congrFun (congrFun (congrFun (congrFun (congrFun aYa C) a0) a1) S) K
theorem v91 {a0 a1:V} {v:V} (hc:cloVs [a0,a1]=true) (h:m91 C a0 a1 ⟨0,.nil⟩ fun v0 S0=>bZ S0 v0=.ok v):Fv 91 [a0,a1] v:=Go.AM.Fn.of (p:=bD 91) (lv:=bE 91) (by kernel_rfl) hc (by rw [t91];exact h)
theorem t102 (C:aD) (a0:V) (S:St) (K:KW):aM prog C (bD 102) (bE 102) 102 [a0] S K=aRh C a0 S K:=congrFun (congrFun (congrFun (congrFun aRi C) a0) S) K
theorem bJl {a0:V} {S:St} {K:KW} (hc:cloVs [a0]=true) (h:aRh C a0 ⟨0,.nil⟩ fun v0 S0=>wR (oW [2] v0 S0 S) fun r=>K r.1 r.2):C 102 [a0] S K:=aX2 (p:=bD 102) (lv:=bE 102) (by kernel_rfl) hc (by rw [t102];exact h)
theorem t103 (C:aD) (a0:V) (S:St) (K:KW):aM prog C (bD 103) (bE 103) 103 [a0] S K=aRj C a0 S K:=congrFun (congrFun (congrFun (congrFun aRk C) a0) S) K
theorem bJm {a0:V} {v:V} (hc:cloVs [a0]=true) (h:aRj C a0 ⟨0,.nil⟩ fun v0 S0=>bZ S0 v0=.ok v):Fv 103 [a0] v:=Go.AM.Fn.of (p:=bD 103) (lv:=bE 103) (by kernel_rfl) hc (by rw [t103];exact h)
theorem t104 (C:aD) (a0:V) (S:St) (K:KW):aM prog C (bD 104) (bE 104) 104 [a0] S K=aRl C a0 S K:=congrFun (congrFun (congrFun (congrFun aRm C) a0) S) K
theorem bJn {a0:V} {v:V} (hc:cloVs [a0]=true) (h:aRl C a0 ⟨0,.nil⟩ fun v0 S0=>bZ S0 v0=.ok v):Fv 104 [a0] v:=Go.AM.Fn.of (p:=bD 104) (lv:=bE 104) (by kernel_rfl) hc (by rw [t104];exact h)
theorem bDh:tX 104=some (.val (bD 104)):=by kernel_rfl
theorem bJo (C:aD) (a0 a1 a2:V) (S:St) (K:KW):aM prog C (bD 105) (bE 105) 105 [a0,a1,a2] S K=aRn C a0 a1 a2 S K:=congrFun (congrFun (congrFun (congrFun (congrFun (congrFun aRo C) a0) a1) a2) S) K
theorem bJp {a0 a1 a2:V} {v:V} (hc:cloVs [a0,a1,a2]=true) (h:aRn C a0 a1 a2 ⟨0,.nil⟩ fun v0 S0=>bZ S0 v0=.ok v):Fv 105 [a0,a1,a2] v:=Go.AM.Fn.of (p:=bD 105) (lv:=bE 105) (by kernel_rfl) hc (by rw [bJo];exact h)
theorem bJq (C:aD) (a0 a1:V) (S:St) (K:KW):aM prog C (bD 106) (bE 106) 106 [a0,a1] S K=aRp C a0 a1 S K:=congrFun (congrFun (congrFun (congrFun (congrFun aRq C) a0) a1) S) K
theorem bJr {a0 a1:V} {S:St} {K:KW} (h:aRp C a0 a1 S K):C 106 [a0,a1] S K:=kQ (p:=bD 106) (lv:=bE 106) (by kernel_rfl) (by rw [bJq];exact h)
theorem bJs (C:aD) (a0 a1 a2 a3:V) (S:St) (K:KW):aM prog C (bD 107) (bE 107) 107 [a0,a1,a2,a3] S K=aRr C a0 a1 a2 a3 S K:=congrFun (congrFun (congrFun (congrFun (congrFun (congrFun (congrFun aRs C) a0) a1) a2) a3) S) K
theorem bJt {a0 a1 a2 a3:V} {v:V} (hc:cloVs [a0,a1,a2,a3]=true) (h:aRr C a0 a1 a2 a3 ⟨0,.nil⟩ fun v0 S0=>bZ S0 v0=.ok v):Fv 107 [a0,a1,a2,a3] v:=Go.AM.Fn.of (p:=bD 107) (lv:=bE 107) (by kernel_rfl) hc (by rw [bJs];exact h)
theorem bJu (C:aD) (a0:V) (S:St) (K:KW):aM prog C (bD 123) (bE 123) 123 [a0] S K=aRt C a0 S K:=congrFun (congrFun (congrFun (congrFun aRu C) a0) S) K
theorem bJv {a0:V} {v:V} (hc:cloVs [a0]=true) (h:aRt C a0 ⟨0,.nil⟩ fun v0 S0=>bZ S0 v0=.ok v):Fv 123 [a0] v:=Go.AM.Fn.of (p:=bD 123) (lv:=bE 123) (by kernel_rfl) hc (by rw [bJu];exact h)
theorem bJw (C:aD) (a0 a1:V) (S:St) (K:KW):aM prog C (bD 124) (bE 124) 124 [a0,a1] S K=aRv C a0 a1 S K:=congrFun (congrFun (congrFun (congrFun (congrFun aRw C) a0) a1) S) K
theorem bJx {a0 a1:V} {v:V} (hc:cloVs [a0,a1]=true) (h:aRv C a0 a1 ⟨0,.nil⟩ fun v0 S0=>bZ S0 v0=.ok v):Fv 124 [a0,a1] v:=Go.AM.Fn.of (p:=bD 124) (lv:=bE 124) (by kernel_rfl) hc (by rw [bJw];exact h)
theorem bJy (C:aD) (a0 a1:V) (S:St) (K:KW):aM prog C (bD 125) (bE 125) 125 [a0,a1] S K=aRx C a0 a1 S K:=congrFun (congrFun (congrFun (congrFun (congrFun aRy C) a0) a1) S) K
theorem bJz {a0 a1:V} {S:St} {K:KW} (h:aRx C a0 a1 S K):C 125 [a0,a1] S K:=kQ (p:=bD 125) (lv:=bE 125) (by kernel_rfl) (by rw [bJy];exact h)
theorem bK0 (C:aD) (a0:V) (S:St) (K:KW):aM prog C (bD 128) (bE 128) 128 [a0] S K=aRz C a0 S K:=congrFun (congrFun (congrFun (congrFun aS0 C) a0) S) K
theorem bK1 {a0:V} {v:V} (hc:cloVs [a0]=true) (h:aRz C a0 ⟨0,.nil⟩ fun v0 S0=>bZ S0 v0=.ok v):Fv 128 [a0] v:=Go.AM.Fn.of (p:=bD 128) (lv:=bE 128) (by kernel_rfl) hc (by rw [bK0];exact h)
theorem bK2 (C:aD) (a0 a1:V) (S:St) (K:KW):aM prog C (bD 129) (bE 129) 129 [a0,a1] S K=aS1 C a0 a1 S K:=congrFun (congrFun (congrFun (congrFun (congrFun aS2 C) a0) a1) S) K
theorem bK3 {a0 a1:V} {v:V} (hc:cloVs [a0,a1]=true) (h:aS1 C a0 a1 ⟨0,.nil⟩ fun v0 S0=>bZ S0 v0=.ok v):Fv 129 [a0,a1] v:=Go.AM.Fn.of (p:=bD 129) (lv:=bE 129) (by kernel_rfl) hc (by rw [bK2];exact h)
theorem bK4 (C:aD) (a0 a1:V) (S:St) (K:KW):aM prog C (bD 130) (bE 130) 130 [a0,a1] S K=aS3 C a0 a1 S K:=congrFun (congrFun (congrFun (congrFun (congrFun aS4 C) a0) a1) S) K
theorem bK5 {a0 a1:V} {v:V} (hc:cloVs [a0,a1]=true) (h:aS3 C a0 a1 ⟨0,.nil⟩ fun v0 S0=>bZ S0 v0=.ok v):Fv 130 [a0,a1] v:=Go.AM.Fn.of (p:=bD 130) (lv:=bE 130) (by kernel_rfl) hc (by rw [bK4];exact h)
theorem bDi:tX 130=some (.val (bD 130)):=by kernel_rfl
theorem bK6 (C:aD) (a0:V) (S:St) (K:KW):aM prog C (bD 131) (bE 131) 131 [a0] S K=aS5 C a0 S K:=congrFun (congrFun (congrFun (congrFun aS6 C) a0) S) K
theorem bK7 {a0:V} {v:V} (hc:cloVs [a0]=true) (h:aS5 C a0 ⟨0,.nil⟩ fun v0 S0=>bZ S0 v0=.ok v):Fv 131 [a0] v:=Go.AM.Fn.of (p:=bD 131) (lv:=bE 131) (by kernel_rfl) hc (by rw [bK6];exact h)
theorem bK8 (C:aD) (a0 a1:V) (S:St) (K:KW):aM prog C (bD 132) (bE 132) 132 [a0,a1] S K=aS7 C a0 a1 S K:=congrFun (congrFun (congrFun (congrFun (congrFun aS8 C) a0) a1) S) K
theorem bK9 {a0 a1:V} {v:V} (hc:cloVs [a0,a1]=true) (h:aS7 C a0 a1 ⟨0,.nil⟩ fun v0 S0=>bZ S0 v0=.ok v):Fv 132 [a0,a1] v:=Go.AM.Fn.of (p:=bD 132) (lv:=bE 132) (by kernel_rfl) hc (by rw [bK8];exact h)
theorem bKa (C:aD) (a0 a1:V) (S:St) (K:KW):aM prog C (bD 152) (bE 152) 152 [a0,a1] S K=aYb C a0 a1 S K:=congrFun (congrFun (congrFun (congrFun (congrFun aS9 C) a0) a1) S) K
theorem bDj:tX 152=some (.val (bD 152)):=by kernel_rfl
theorem bKb (C:aD) (a0 a1:V) (S:St) (K:KW):aM prog C (bD 155) (bE 155) 155 [a0,a1] S K=aYc C a0 a1 S K:=congrFun (congrFun (congrFun (congrFun (congrFun aSa C) a0) a1) S) K
theorem bDk:tX 155=some (.val (bD 155)):=by kernel_rfl
theorem bKc (C:aD) (a0:V) (S:St) (K:KW):aM prog C (bD 157) (bE 157) 157 [a0] S K=aSb C a0 S K:=congrFun (congrFun (congrFun (congrFun aSc C) a0) S) K
theorem bKd {a0:V} {v:V} (hc:cloVs [a0]=true) (h:aSb C a0 ⟨0,.nil⟩ fun v0 S0=>bZ S0 v0=.ok v):Fv 157 [a0] v:=Go.AM.Fn.of (p:=bD 157) (lv:=bE 157) (by kernel_rfl) hc (by rw [bKc];exact h)
theorem bKe (C:aD) (a0 a1:V) (S:St) (K:KW):aM prog C (bD 158) (bE 158) 158 [a0,a1] S K=aSd C a0 a1 S K:=congrFun (congrFun (congrFun (congrFun (congrFun aSe C) a0) a1) S) K
theorem bKf {a0 a1:V} {v:V} (hc:cloVs [a0,a1]=true) (h:aSd C a0 a1 ⟨0,.nil⟩ fun v0 S0=>bZ S0 v0=.ok v):Fv 158 [a0,a1] v:=Go.AM.Fn.of (p:=bD 158) (lv:=bE 158) (by kernel_rfl) hc (by rw [bKe];exact h)
theorem bDl:tX 158=some (.val (bD 158)):=by kernel_rfl
theorem bKg (C:aD) (a0:V) (S:St) (K:KW):aM prog C (bD 163) (bE 163) 163 [a0] S K=aSf C a0 S K:=congrFun (congrFun (congrFun (congrFun aSg C) a0) S) K
theorem bKh {a0:V} {v:V} (hc:cloVs [a0]=true) (h:aSf C a0 ⟨0,.nil⟩ fun v0 S0=>bZ S0 v0=.ok v):Fv 163 [a0] v:=Go.AM.Fn.of (p:=bD 163) (lv:=bE 163) (by kernel_rfl) hc (by rw [bKg];exact h)
theorem bKi (C:aD) (a0 a1:V) (S:St) (K:KW):aM prog C (bD 164) (bE 164) 164 [a0,a1] S K=aSh C a0 a1 S K:=congrFun (congrFun (congrFun (congrFun (congrFun aSi C) a0) a1) S) K
theorem bKj {a0 a1:V} {v:V} (hc:cloVs [a0,a1]=true) (h:aSh C a0 a1 ⟨0,.nil⟩ fun v0 S0=>bZ S0 v0=.ok v):Fv 164 [a0,a1] v:=Go.AM.Fn.of (p:=bD 164) (lv:=bE 164) (by kernel_rfl) hc (by rw [bKi];exact h)
theorem bKk (C:aD) (a0:V) (S:St) (K:KW):aM prog C (bD 165) (bE 165) 165 [a0] S K=aSj C a0 S K:=congrFun (congrFun (congrFun (congrFun aSk C) a0) S) K
theorem bKl {a0:V} {v:V} (hc:cloVs [a0]=true) (h:aSj C a0 ⟨0,.nil⟩ fun v0 S0=>bZ S0 v0=.ok v):Fv 165 [a0] v:=Go.AM.Fn.of (p:=bD 165) (lv:=bE 165) (by kernel_rfl) hc (by rw [bKk];exact h)
theorem bKm (C:aD) (a0:V) (S:St) (K:KW):aM prog C (bD 166) (bE 166) 166 [a0] S K=aSl C a0 S K:=congrFun (congrFun (congrFun (congrFun aSm C) a0) S) K
theorem bKn {a0:V} {v:V} (hc:cloVs [a0]=true) (h:aSl C a0 ⟨0,.nil⟩ fun v0 S0=>bZ S0 v0=.ok v):Fv 166 [a0] v:=Go.AM.Fn.of (p:=bD 166) (lv:=bE 166) (by kernel_rfl) hc (by rw [bKm];exact h)
theorem bKo (C:aD) (a0:V) (S:St) (K:KW):aM prog C (bD 167) (bE 167) 167 [a0] S K=aSn C a0 S K:=congrFun (congrFun (congrFun (congrFun aSo C) a0) S) K
theorem bKp {a0:V} {v:V} (hc:cloVs [a0]=true) (h:aSn C a0 ⟨0,.nil⟩ fun v0 S0=>bZ S0 v0=.ok v):Fv 167 [a0] v:=Go.AM.Fn.of (p:=bD 167) (lv:=bE 167) (by kernel_rfl) hc (by rw [bKo];exact h)
theorem bKq (C:aD) (a0 a1:V) (S:St) (K:KW):aM prog C (bD 168) (bE 168) 168 [a0,a1] S K=aSp C a0 a1 S K:=congrFun (congrFun (congrFun (congrFun (congrFun aSq C) a0) a1) S) K
theorem bKr {a0 a1:V} {v:V} (hc:cloVs [a0,a1]=true) (h:aSp C a0 a1 ⟨0,.nil⟩ fun v0 S0=>bZ S0 v0=.ok v):Fv 168 [a0,a1] v:=Go.AM.Fn.of (p:=bD 168) (lv:=bE 168) (by kernel_rfl) hc (by rw [bKq];exact h)
theorem bDm:tX 168=some (.val (bD 168)):=by kernel_rfl
theorem bKs (C:aD) (a0 a1:V) (S:St) (K:KW):aM prog C (bD 169) (bE 169) 169 [a0,a1] S K=aSr C a0 a1 S K:=congrFun (congrFun (congrFun (congrFun (congrFun aSs C) a0) a1) S) K
theorem bKt {a0 a1:V} {v:V} (hc:cloVs [a0,a1]=true) (h:aSr C a0 a1 ⟨0,.nil⟩ fun v0 S0=>bZ S0 v0=.ok v):Fv 169 [a0,a1] v:=Go.AM.Fn.of (p:=bD 169) (lv:=bE 169) (by kernel_rfl) hc (by rw [bKs];exact h)
theorem bKu (C:aD) (a0 a1:V) (S:St) (K:KW):aM prog C (bD 170) (bE 170) 170 [a0,a1] S K=aYd C a0 a1 S K:=congrFun (congrFun (congrFun (congrFun (congrFun aSt C) a0) a1) S) K
theorem bDn:tX 170=some (.val (bD 170)):=by kernel_rfl
theorem bKv (C:aD) (a0 a1:V) (S:St) (K:KW):aM prog C (bD 173) (bE 173) 173 [a0,a1] S K=aSu C a0 a1 S K:=congrFun (congrFun (congrFun (congrFun (congrFun aSv C) a0) a1) S) K
theorem bKw {a0 a1:V} {v:V} (hc:cloVs [a0,a1]=true) (h:aSu C a0 a1 ⟨0,.nil⟩ fun v0 S0=>bZ S0 v0=.ok v):Fv 173 [a0,a1] v:=Go.AM.Fn.of (p:=bD 173) (lv:=bE 173) (by kernel_rfl) hc (by rw [bKv];exact h)
theorem bKx (C:aD) (a0 a1:V) (S:St) (K:KW):aM prog C (bD 174) (bE 174) 174 [a0,a1] S K=aSw C a0 a1 S K:=congrFun (congrFun (congrFun (congrFun (congrFun aSx C) a0) a1) S) K
theorem bKy {a0 a1:V} {v:V} (hc:cloVs [a0,a1]=true) (h:aSw C a0 a1 ⟨0,.nil⟩ fun v0 S0=>bZ S0 v0=.ok v):Fv 174 [a0,a1] v:=Go.AM.Fn.of (p:=bD 174) (lv:=bE 174) (by kernel_rfl) hc (by rw [bKx];exact h)
theorem bDo:tX 174=some (.val (bD 174)):=by kernel_rfl
theorem bKz (C:aD) (a0 a1 a2:V) (S:St) (K:KW):aM prog C (bD 175) (bE 175) 175 [a0,a1,a2] S K=aSy C a0 a1 a2 S K:=congrFun (congrFun (congrFun (congrFun (congrFun (congrFun aSz C) a0) a1) a2) S) K
theorem bL0 {a0 a1 a2:V} {v:V} (hc:cloVs [a0,a1,a2]=true) (h:aSy C a0 a1 a2 ⟨0,.nil⟩ fun v0 S0=>bZ S0 v0=.ok v):Fv 175 [a0,a1,a2] v:=Go.AM.Fn.of (p:=bD 175) (lv:=bE 175) (by kernel_rfl) hc (by rw [bKz];exact h)
theorem bL1 (C:aD) (a0 a1 a2:V) (S:St) (K:KW):aM prog C (bD 176) (bE 176) 176 [a0,a1,a2] S K=aOy C a0 a1 a2 S K:=congrFun (congrFun (congrFun (congrFun (congrFun (congrFun aT0 C) a0) a1) a2) S) K
theorem bL2 {a0 a1 a2:V} {S:St} {K:KW} (h:aOy C a0 a1 a2 S K):C 176 [a0,a1,a2] S K:=kQ (p:=bD 176) (lv:=bE 176) (by kernel_rfl) (by rw [bL1];exact h)
theorem bL3 (C:aD) (a0 a1:V) (S:St) (K:KW):aM prog C (bD 177) (bE 177) 177 [a0,a1] S K=aT1 C a0 a1 S K:=congrFun (congrFun (congrFun (congrFun (congrFun aT2 C) a0) a1) S) K
theorem bL4 {a0 a1:V} {v:V} (hc:cloVs [a0,a1]=true) (h:aT1 C a0 a1 ⟨0,.nil⟩ fun v0 S0=>bZ S0 v0=.ok v):Fv 177 [a0,a1] v:=Go.AM.Fn.of (p:=bD 177) (lv:=bE 177) (by kernel_rfl) hc (by rw [bL3];exact h)
theorem bL5 (C:aD) (a0 a1:V) (S:St) (K:KW):aM prog C (bD 178) (bE 178) 178 [a0,a1] S K=aT3 C a0 a1 S K:=congrFun (congrFun (congrFun (congrFun (congrFun aT4 C) a0) a1) S) K
theorem bL6 {a0 a1:V} {v:V} (hc:cloVs [a0,a1]=true) (h:aT3 C a0 a1 ⟨0,.nil⟩ fun v0 S0=>bZ S0 v0=.ok v):Fv 178 [a0,a1] v:=Go.AM.Fn.of (p:=bD 178) (lv:=bE 178) (by kernel_rfl) hc (by rw [bL5];exact h)
theorem bL7 (C:aD) (a0 a1 a2:V) (S:St) (K:KW):aM prog C (bD 179) (bE 179) 179 [a0,a1,a2] S K=aOz C a0 a1 a2 S K:=congrFun (congrFun (congrFun (congrFun (congrFun (congrFun aT5 C) a0) a1) a2) S) K
theorem bL8 {a0 a1 a2:V} {S:St} {K:KW} (h:aOz C a0 a1 a2 S K):C 179 [a0,a1,a2] S K:=kQ (p:=bD 179) (lv:=bE 179) (by kernel_rfl) (by rw [bL7];exact h)
theorem bL9 (C:aD) (a0 a1:V) (S:St) (K:KW):aM prog C (bD 180) (bE 180) 180 [a0,a1] S K=aT6 C a0 a1 S K:=congrFun (congrFun (congrFun (congrFun (congrFun aT7 C) a0) a1) S) K
theorem bLa {a0 a1:V} {S:St} {K:KW} (h:aT6 C a0 a1 S K):C 180 [a0,a1] S K:=kQ (p:=bD 180) (lv:=bE 180) (by kernel_rfl) (by rw [bL9];exact h)
theorem bLb (C:aD) (a0 a1:V) (S:St) (K:KW):aM prog C (bD 181) (bE 181) 181 [a0,a1] S K=aT8 C a0 a1 S K:=congrFun (congrFun (congrFun (congrFun (congrFun aT9 C) a0) a1) S) K
theorem bLc {a0 a1:V} {S:St} {K:KW} (h:aT8 C a0 a1 S K):C 181 [a0,a1] S K:=kQ (p:=bD 181) (lv:=bE 181) (by kernel_rfl) (by rw [bLb];exact h)
theorem bLd (C:aD) (a0 a1:V) (S:St) (K:KW):aM prog C (bD 182) (bE 182) 182 [a0,a1] S K=aTa C a0 a1 S K:=congrFun (congrFun (congrFun (congrFun (congrFun aTb C) a0) a1) S) K
theorem bLe {a0 a1:V} {v:V} (hc:cloVs [a0,a1]=true) (h:aTa C a0 a1 ⟨0,.nil⟩ fun v0 S0=>bZ S0 v0=.ok v):Fv 182 [a0,a1] v:=Go.AM.Fn.of (p:=bD 182) (lv:=bE 182) (by kernel_rfl) hc (by rw [bLd];exact h)
theorem bLf (C:aD) (a0 a1 a2:V) (S:St) (K:KW):aM prog C (bD 183) (bE 183) 183 [a0,a1,a2] S K=aP0 C a0 a1 a2 S K:=congrFun (congrFun (congrFun (congrFun (congrFun (congrFun aTc C) a0) a1) a2) S) K
theorem bLg {a0 a1 a2:V} {S:St} {K:KW} (h:aP0 C a0 a1 a2 S K):C 183 [a0,a1,a2] S K:=kQ (p:=bD 183) (lv:=bE 183) (by kernel_rfl) (by rw [bLf];exact h)
theorem bLh (C:aD) (a0 a1:V) (S:St) (K:KW):aM prog C (bD 184) (bE 184) 184 [a0,a1] S K=aTd C a0 a1 S K:=congrFun (congrFun (congrFun (congrFun (congrFun aTe C) a0) a1) S) K
theorem bLi {a0 a1:V} {S:St} {K:KW} (h:aTd C a0 a1 S K):C 184 [a0,a1] S K:=kQ (p:=bD 184) (lv:=bE 184) (by kernel_rfl) (by rw [bLh];exact h)
theorem bLj (C:aD) (a0:V) (S:St) (K:KW):aM prog C (bD 200) (bE 200) 200 [a0] S K=aTf C a0 S K:=congrFun (congrFun (congrFun (congrFun aTg C) a0) S) K
theorem bLk {a0:V} {v:V} (hc:cloVs [a0]=true) (h:aTf C a0 ⟨0,.nil⟩ fun v0 S0=>bZ S0 v0=.ok v):Fv 200 [a0] v:=Go.AM.Fn.of (p:=bD 200) (lv:=bE 200) (by kernel_rfl) hc (by rw [bLj];exact h)
theorem bLl (C:aD) (a0 a1:V) (S:St) (K:KW):aM prog C (bD 201) (bE 201) 201 [a0,a1] S K=aTh C a0 a1 S K:=congrFun (congrFun (congrFun (congrFun (congrFun aTi C) a0) a1) S) K
theorem bLm {a0 a1:V} {v:V} (hc:cloVs [a0,a1]=true) (h:aTh C a0 a1 ⟨0,.nil⟩ fun v0 S0=>bZ S0 v0=.ok v):Fv 201 [a0,a1] v:=Go.AM.Fn.of (p:=bD 201) (lv:=bE 201) (by kernel_rfl) hc (by rw [bLl];exact h)
theorem bLn (C:aD) (a0 a1:V) (S:St) (K:KW):aM prog C (bD 203) (bE 203) 203 [a0,a1] S K=aTj C a0 a1 S K:=congrFun (congrFun (congrFun (congrFun (congrFun aTk C) a0) a1) S) K
theorem bLo {a0 a1:V} {v:V} (hc:cloVs [a0,a1]=true) (h:aTj C a0 a1 ⟨0,.nil⟩ fun v0 S0=>bZ S0 v0=.ok v):Fv 203 [a0,a1] v:=Go.AM.Fn.of (p:=bD 203) (lv:=bE 203) (by kernel_rfl) hc (by rw [bLn];exact h)
theorem bLp (C:aD) (a0:V) (S:St) (K:KW):aM prog C (bD 204) (bE 204) 204 [a0] S K=aTl C a0 S K:=congrFun (congrFun (congrFun (congrFun aTm C) a0) S) K
theorem bLq {a0:V} {v:V} (hc:cloVs [a0]=true) (h:aTl C a0 ⟨0,.nil⟩ fun v0 S0=>bZ S0 v0=.ok v):Fv 204 [a0] v:=Go.AM.Fn.of (p:=bD 204) (lv:=bE 204) (by kernel_rfl) hc (by rw [bLp];exact h)
theorem bLr (C:aD) (a0 a1:V) (S:St) (K:KW):aM prog C (bD 217) (bE 217) 217 [a0,a1] S K=aTn C a0 a1 S K:=congrFun (congrFun (congrFun (congrFun (congrFun aTo C) a0) a1) S) K
theorem bLs {a0 a1:V} {v:V} (hc:cloVs [a0,a1]=true) (h:aTn C a0 a1 ⟨0,.nil⟩ fun v0 S0=>bZ S0 v0=.ok v):Fv 217 [a0,a1] v:=Go.AM.Fn.of (p:=bD 217) (lv:=bE 217) (by kernel_rfl) hc (by rw [bLr];exact h)
theorem bLt (C:aD) (a0:V) (S:St) (K:KW):aM prog C (bD 218) (bE 218) 218 [a0] S K=aTp C a0 S K:=congrFun (congrFun (congrFun (congrFun aTq C) a0) S) K
theorem bLu {a0:V} {v:V} (hc:cloVs [a0]=true) (h:aTp C a0 ⟨0,.nil⟩ fun v0 S0=>bZ S0 v0=.ok v):Fv 218 [a0] v:=Go.AM.Fn.of (p:=bD 218) (lv:=bE 218) (by kernel_rfl) hc (by rw [bLt];exact h)
theorem bDp:tX 218=some (.val (bD 218)):=by kernel_rfl
theorem bLv (C:aD) (a0 a1:V) (S:St) (K:KW):aM prog C (bD 219) (bE 219) 219 [a0,a1] S K=aTr C a0 a1 S K:=congrFun (congrFun (congrFun (congrFun (congrFun aTs C) a0) a1) S) K
theorem bLw {a0 a1:V} {v:V} (hc:cloVs [a0,a1]=true) (h:aTr C a0 a1 ⟨0,.nil⟩ fun v0 S0=>bZ S0 v0=.ok v):Fv 219 [a0,a1] v:=Go.AM.Fn.of (p:=bD 219) (lv:=bE 219) (by kernel_rfl) hc (by rw [bLv];exact h)
theorem bLx (C:aD) (a0:V) (S:St) (K:KW):aM prog C (bD 220) (bE 220) 220 [a0] S K=aTt C a0 S K:=congrFun (congrFun (congrFun (congrFun aTu C) a0) S) K
theorem bLy {a0:V} {v:V} (hc:cloVs [a0]=true) (h:aTt C a0 ⟨0,.nil⟩ fun v0 S0=>bZ S0 v0=.ok v):Fv 220 [a0] v:=Go.AM.Fn.of (p:=bD 220) (lv:=bE 220) (by kernel_rfl) hc (by rw [bLx];exact h)
theorem bLz (C:aD) (a0:V) (S:St) (K:KW):aM prog C (bD 225) (bE 225) 225 [a0] S K=aTv C a0 S K:=congrFun (congrFun (congrFun (congrFun aTw C) a0) S) K
theorem bM0 {a0:V} {v:V} (hc:cloVs [a0]=true) (h:aTv C a0 ⟨0,.nil⟩ fun v0 S0=>bZ S0 v0=.ok v):Fv 225 [a0] v:=Go.AM.Fn.of (p:=bD 225) (lv:=bE 225) (by kernel_rfl) hc (by rw [bLz];exact h)
theorem bM1 (C:aD) (a0:V) (S:St) (K:KW):aM prog C (bD 226) (bE 226) 226 [a0] S K=aTx C a0 S K:=congrFun (congrFun (congrFun (congrFun aTy C) a0) S) K
theorem bM2 {a0:V} {v:V} (hc:cloVs [a0]=true) (h:aTx C a0 ⟨0,.nil⟩ fun v0 S0=>bZ S0 v0=.ok v):Fv 226 [a0] v:=Go.AM.Fn.of (p:=bD 226) (lv:=bE 226) (by kernel_rfl) hc (by rw [bM1];exact h)
theorem bM3 (C:aD) (a0 a1:V) (S:St) (K:KW):aM prog C (bD 227) (bE 227) 227 [a0,a1] S K=aYe C a0 a1 S K:=congrFun (congrFun (congrFun (congrFun (congrFun aTz C) a0) a1) S) K
theorem bDq:tX 227=some (.val (bD 227)):=by kernel_rfl
theorem bM4 (C:aD) (a0:V) (S:St) (K:KW):aM prog C (bD 228) (bE 228) 228 [a0] S K=aU0 C a0 S K:=congrFun (congrFun (congrFun (congrFun aU1 C) a0) S) K
theorem bM5 {a0:V} {v:V} (hc:cloVs [a0]=true) (h:aU0 C a0 ⟨0,.nil⟩ fun v0 S0=>bZ S0 v0=.ok v):Fv 228 [a0] v:=Go.AM.Fn.of (p:=bD 228) (lv:=bE 228) (by kernel_rfl) hc (by rw [bM4];exact h)
theorem bM6 (C:aD) (a0 a1:V) (S:St) (K:KW):aM prog C (bD 229) (bE 229) 229 [a0,a1] S K=aU2 C a0 a1 S K:=congrFun (congrFun (congrFun (congrFun (congrFun aU3 C) a0) a1) S) K
theorem bM7 {a0 a1:V} {v:V} (hc:cloVs [a0,a1]=true) (h:aU2 C a0 a1 ⟨0,.nil⟩ fun v0 S0=>bZ S0 v0=.ok v):Fv 229 [a0,a1] v:=Go.AM.Fn.of (p:=bD 229) (lv:=bE 229) (by kernel_rfl) hc (by rw [bM6];exact h)
theorem bM8 (C:aD) (a0 a1:V) (S:St) (K:KW):aM prog C (bD 231) (bE 231) 231 [a0,a1] S K=aYf C a0 a1 S K:=congrFun (congrFun (congrFun (congrFun (congrFun aU4 C) a0) a1) S) K
theorem bDr:tX 231=some (.val (bD 231)):=by kernel_rfl
theorem bM9 (C:aD) (a0 a1:V) (S:St) (K:KW):aM prog C (bD 232) (bE 232) 232 [a0,a1] S K=aYg C a0 a1 S K:=congrFun (congrFun (congrFun (congrFun (congrFun aU5 C) a0) a1) S) K
theorem bDs:tX 232=some (.val (bD 232)):=by kernel_rfl
theorem bMa (C:aD) (a0 a1:V) (S:St) (K:KW):aM prog C (bD 233) (bE 233) 233 [a0,a1] S K=aU6 C a0 a1 S K:=congrFun (congrFun (congrFun (congrFun (congrFun aU7 C) a0) a1) S) K
theorem bMb {a0 a1:V} {v:V} (hc:cloVs [a0,a1]=true) (h:aU6 C a0 a1 ⟨0,.nil⟩ fun v0 S0=>bZ S0 v0=.ok v):Fv 233 [a0,a1] v:=Go.AM.Fn.of (p:=bD 233) (lv:=bE 233) (by kernel_rfl) hc (by rw [bMa];exact h)
theorem bMc (C:aD) (a0:V) (S:St) (K:KW):aM prog C (bD 235) (bE 235) 235 [a0] S K=aU8 C a0 S K:=congrFun (congrFun (congrFun (congrFun aU9 C) a0) S) K
theorem bMd {a0:V} {S:St} {K:KW} (hc:cloVs [a0]=true) (h:aU8 C a0 ⟨0,.nil⟩ fun v0 S0=>wR (oW [0] v0 S0 S) fun r=>K r.1 r.2):C 235 [a0] S K:=aX2 (p:=bD 235) (lv:=bE 235) (by kernel_rfl) hc (by rw [bMc];exact h)
theorem bMe (C:aD) (a0 a1:V) (S:St) (K:KW):aM prog C (bD 236) (bE 236) 236 [a0,a1] S K=aUa C a0 a1 S K:=congrFun (congrFun (congrFun (congrFun (congrFun aUb C) a0) a1) S) K
theorem bMf {a0 a1:V} {v:V} (hc:cloVs [a0,a1]=true) (h:aUa C a0 a1 ⟨0,.nil⟩ fun v0 S0=>bZ S0 v0=.ok v):Fv 236 [a0,a1] v:=Go.AM.Fn.of (p:=bD 236) (lv:=bE 236) (by kernel_rfl) hc (by rw [bMe];exact h)
theorem bMg (C:aD) (a0 a1 a2:V) (S:St) (K:KW):aM prog C (bD 238) (bE 238) 238 [a0,a1,a2] S K=aUc C a0 a1 a2 S K:=congrFun (congrFun (congrFun (congrFun (congrFun (congrFun aUd C) a0) a1) a2) S) K
theorem bMh {a0 a1 a2:V} {v:V} (hc:cloVs [a0,a1,a2]=true) (h:aUc C a0 a1 a2 ⟨0,.nil⟩ fun v0 S0=>bZ S0 v0=.ok v):Fv 238 [a0,a1,a2] v:=Go.AM.Fn.of (p:=bD 238) (lv:=bE 238) (by kernel_rfl) hc (by rw [bMg];exact h)
theorem bMi (C:aD) (a0 a1 a2:V) (S:St) (K:KW):aM prog C (bD 239) (bE 239) 239 [a0,a1,a2] S K=aUe C a0 a1 a2 S K:=congrFun (congrFun (congrFun (congrFun (congrFun (congrFun aUf C) a0) a1) a2) S) K
theorem bMj {a0 a1 a2:V} {S:St} {K:KW} (h:aUe C a0 a1 a2 S K):C 239 [a0,a1,a2] S K:=kQ (p:=bD 239) (lv:=bE 239) (by kernel_rfl) (by rw [bMi];exact h)
theorem bMk (C:aD) (a0 a1:V) (S:St) (K:KW):aM prog C (bD 241) (bE 241) 241 [a0,a1] S K=aUg C a0 a1 S K:=congrFun (congrFun (congrFun (congrFun (congrFun aUh C) a0) a1) S) K
theorem bMl {a0 a1:V} {v:V} (hc:cloVs [a0,a1]=true) (h:aUg C a0 a1 ⟨0,.nil⟩ fun v0 S0=>bZ S0 v0=.ok v):Fv 241 [a0,a1] v:=Go.AM.Fn.of (p:=bD 241) (lv:=bE 241) (by kernel_rfl) hc (by rw [bMk];exact h)
theorem bMm (C:aD) (a0 a1 a2:V) (S:St) (K:KW):aM prog C (bD 254) (bE 254) 254 [a0,a1,a2] S K=aUi C a0 a1 a2 S K:=congrFun (congrFun (congrFun (congrFun (congrFun (congrFun aUj C) a0) a1) a2) S) K
theorem bMn {a0 a1 a2:V} {v:V} (hc:cloVs [a0,a1,a2]=true) (h:aUi C a0 a1 a2 ⟨0,.nil⟩ fun v0 S0=>bZ S0 v0=.ok v):Fv 254 [a0,a1,a2] v:=Go.AM.Fn.of (p:=bD 254) (lv:=bE 254) (by kernel_rfl) hc (by rw [bMm];exact h)
theorem bMo (C:aD) (a0:V) (S:St) (K:KW):aM prog C (bD 259) (bE 259) 259 [a0] S K=aP1 C a0 S K:=congrFun (congrFun (congrFun (congrFun aUk C) a0) S) K
theorem bDt {a0:V} {S:St} {K:KW} (h:aP1 C a0 S K):C 259 [a0] S K:=kQ (p:=bD 259) (lv:=bE 259) (by kernel_rfl) (by rw [bMo];exact h)
theorem bMp (C:aD) (a0 a1:V) (S:St) (K:KW):aM prog C (bD 260) (bE 260) 260 [a0,a1] S K=aUl C a0 a1 S K:=congrFun (congrFun (congrFun (congrFun (congrFun aUm C) a0) a1) S) K
theorem bMq {a0 a1:V} {v:V} (hc:cloVs [a0,a1]=true) (h:aUl C a0 a1 ⟨0,.nil⟩ fun v0 S0=>bZ S0 v0=.ok v):Fv 260 [a0,a1] v:=Go.AM.Fn.of (p:=bD 260) (lv:=bE 260) (by kernel_rfl) hc (by rw [bMp];exact h)
theorem bMr (C:aD) (a0 a1:V) (S:St) (K:KW):aM prog C (bD 263) (bE 263) 263 [a0,a1] S K=aYh C a0 a1 S K:=congrFun (congrFun (congrFun (congrFun (congrFun aUn C) a0) a1) S) K
theorem bDu:tX 263=some (.val (bD 263)):=by kernel_rfl
theorem bMs (C:aD) (a0 a1 a2:V) (S:St) (K:KW):aM prog C (bD 268) (bE 268) 268 [a0,a1,a2] S K=aUo C a0 a1 a2 S K:=congrFun (congrFun (congrFun (congrFun (congrFun (congrFun aUp C) a0) a1) a2) S) K
theorem bMt {a0 a1 a2:V} {v:V} (hc:cloVs [a0,a1,a2]=true) (h:aUo C a0 a1 a2 ⟨0,.nil⟩ fun v0 S0=>bZ S0 v0=.ok v):Fv 268 [a0,a1,a2] v:=Go.AM.Fn.of (p:=bD 268) (lv:=bE 268) (by kernel_rfl) hc (by rw [bMs];exact h)
theorem bMu (C:aD) (a0 a1 a2 a3:V) (S:St) (K:KW):aM prog C (bD 269) (bE 269) 269 [a0,a1,a2,a3] S K=aUq C a0 a1 a2 a3 S K:=congrFun (congrFun (congrFun (congrFun (congrFun (congrFun (congrFun aUr C) a0) a1) a2) a3) S) K
theorem bMv {a0 a1 a2 a3:V} {S:St} {K:KW} (h:aUq C a0 a1 a2 a3 S K):C 269 [a0,a1,a2,a3] S K:=kQ (p:=bD 269) (lv:=bE 269) (by kernel_rfl) (by rw [bMu];exact h)
theorem bMw (C:aD) (a0:V) (S:St) (K:KW):aM prog C (bD 270) (bE 270) 270 [a0] S K=aUs C a0 S K:=congrFun (congrFun (congrFun (congrFun aUt C) a0) S) K
theorem bMx {a0:V} {S:St} {K:KW} (h:aUs C a0 S K):C 270 [a0] S K:=kQ (p:=bD 270) (lv:=bE 270) (by kernel_rfl) (by rw [bMw];exact h)
theorem bMy (C:aD) (a0 a1:V) (S:St) (K:KW):aM prog C (bD 271) (bE 271) 271 [a0,a1] S K=aUu C a0 a1 S K:=congrFun (congrFun (congrFun (congrFun (congrFun aUv C) a0) a1) S) K
theorem bMz {a0 a1:V} {v:V} (hc:cloVs [a0,a1]=true) (h:aUu C a0 a1 ⟨0,.nil⟩ fun v0 S0=>bZ S0 v0=.ok v):Fv 271 [a0,a1] v:=Go.AM.Fn.of (p:=bD 271) (lv:=bE 271) (by kernel_rfl) hc (by rw [bMy];exact h)
theorem bN0 (C:aD) (a0 a1 a2:V) (S:St) (K:KW):aM prog C (bD 278) (bE 278) 278 [a0,a1,a2] S K=aUw C a0 a1 a2 S K:=congrFun (congrFun (congrFun (congrFun (congrFun (congrFun aUx C) a0) a1) a2) S) K
theorem bN1 {a0 a1 a2:V} {v:V} (hc:cloVs [a0,a1,a2]=true) (h:aUw C a0 a1 a2 ⟨0,.nil⟩ fun v0 S0=>bZ S0 v0=.ok v):Fv 278 [a0,a1,a2] v:=Go.AM.Fn.of (p:=bD 278) (lv:=bE 278) (by kernel_rfl) hc (by rw [bN0];exact h)
theorem bN2 (C:aD) (a0 a1:V) (S:St) (K:KW):aM prog C (bD 279) (bE 279) 279 [a0,a1] S K=aUy C a0 a1 S K:=congrFun (congrFun (congrFun (congrFun (congrFun aUz C) a0) a1) S) K
theorem bN3 {a0 a1:V} {v:V} (hc:cloVs [a0,a1]=true) (h:aUy C a0 a1 ⟨0,.nil⟩ fun v0 S0=>bZ S0 v0=.ok v):Fv 279 [a0,a1] v:=Go.AM.Fn.of (p:=bD 279) (lv:=bE 279) (by kernel_rfl) hc (by rw [bN2];exact h)
theorem bN4 (C:aD) (a0:V) (S:St) (K:KW):aM prog C (bD 286) (bE 286) 286 [a0] S K=aV0 C a0 S K:=congrFun (congrFun (congrFun (congrFun aV1 C) a0) S) K
theorem bN5 {a0:V} {v:V} (hc:cloVs [a0]=true) (h:aV0 C a0 ⟨0,.nil⟩ fun v0 S0=>bZ S0 v0=.ok v):Fv 286 [a0] v:=Go.AM.Fn.of (p:=bD 286) (lv:=bE 286) (by kernel_rfl) hc (by rw [bN4];exact h)
theorem bN6 (C:aD) (a0 a1:V) (S:St) (K:KW):aM prog C (bD 287) (bE 287) 287 [a0,a1] S K=aV2 C a0 a1 S K:=congrFun (congrFun (congrFun (congrFun (congrFun aV3 C) a0) a1) S) K
theorem bN7 {a0 a1:V} {v:V} (hc:cloVs [a0,a1]=true) (h:aV2 C a0 a1 ⟨0,.nil⟩ fun v0 S0=>bZ S0 v0=.ok v):Fv 287 [a0,a1] v:=Go.AM.Fn.of (p:=bD 287) (lv:=bE 287) (by kernel_rfl) hc (by rw [bN6];exact h)
end Go.Proofs.YtoaibmbldmckaaaGreat
end
section
namespace Go.AM
open Go.RowKit Go.Lib Go.Proofs Go.Shelf
theorem aB6 {P:Program} {t:TypeId} (h:(P.info? t).isSome=true) (w:World):(Go.sizeOf t).run P w=.ok (sz P t) w:=by
 obtain ⟨i,hi⟩:=Option.isSome_iff_exists.1 h
 simp [sizeOf,typeInfo,hi,iD hi]
theorem jN {P:Program} {t:TypeId} (h:(P.info? t).map (·.size)=some 1) (w:World):(Go.sizeOf t).run P w=.ok 1 w:=by
 cases hi:P.info? t with
 | none=>rw [hi] at h;cases h
 | some i=>rw [hi] at h;simp [sizeOf,typeInfo,hi] at h ⊢;exact h
theorem nP {P:Program} {f:FuncId} {T e I B:TypeId} {ov rr:FuncId} {fn fo:Func} (mixed:P.follows .mixedOrders=true) (hf:P.funcs[f]?=some fn) (hb:fn.body=some (uP T I B ov rr)) (hn:fn.ntmps=95) (hr:fn.results=#[.tmp 6])
  (tT:P.underlying T=some (.slice e)) (tI:P.underlying I=some (.int .i64)) (tB:P.underlying B=some .bool)
  (ho:P.funcs[ov]?=some fo) (o1:(fo.name == "runtime.NumGoroutine")=false) (o2:fo.body.isNone=true) (o3:Extern.findNext fo=none) (o4:Extern.find fo=some (Extern.SlicesOverlaps.overlaps #[T,T] #[B]))
  (zE:(P.info? e).isSome=true) (zT:(P.info? T).map (·.size)=some 1) (zI:(P.info? I).map (·.size)=some 1) (zB:(P.info? B).map (·.size)=some 1):InsAt P f T e I B ov rr fn:=
 ⟨mixed,hf,hb,hn,hr,tT,tI,tB,run_callFunc_extern ho o1 o2 o3 o4,aB6 zE,jN zT,jN zI,jN zB⟩
theorem aP2 {P:Program} {f:FuncId} {T e I B:TypeId} {fn:Func} (mixed:P.follows .mixedOrders=true) (hf:P.funcs[f]?=some fn) (hb:fn.body=some (zL T I B)) (hn:fn.ntmps=33) (hr:fn.results=#[.tmp 6])
  (tT:P.underlying T=some (.slice e)) (tI:P.underlying I=some (.int .i64)) (tB:P.underlying B=some .bool)
  (zE:(P.info? e).isSome=true) (zT:(P.info? T).map (·.size)=some 1) (zI:(P.info? I).map (·.size)=some 1) (zB:(P.info? B).map (·.size)=some 1):DelAt P f T e I B fn:=
 ⟨mixed,hf,hb,hn,hr,tT,tI,tB,aB6 zE,jN zT,jN zI,jN zB⟩
end Go.AM
end
section
namespace Go.Proofs.YtoaibmbldmckaaaGreat
open Go.RowKit Go.AM Tryz
theorem bDv:SpecOK prog 202 ((Sp.ins 68).run prog):=
 iG (e:=76) (I:=3) (B:=4) (ov:=247) (rr:=248) (fn:=Tryz.f202) (nP (fo:=Tryz.f247) (by kernel_rfl) (by kernel_rfl) (by kernel_rfl) (by kernel_rfl) (by kernel_rfl)
  (by kernel_rfl) (by kernel_rfl) (by kernel_rfl) (by kernel_rfl) (by kernel_rfl) (by kernel_rfl) (by kernel_rfl) (by kernel_rfl) (by kernel_rfl) (by kernel_rfl) (by kernel_rfl) (by kernel_rfl)) (by kernel_rfl)
theorem bDw:SpecOK prog 221 ((Sp.ins 27).run prog):=
 iG (e:=90) (I:=3) (B:=4) (ov:=256) (rr:=257) (fn:=Tryz.f221) (nP (fo:=Tryz.f256) (by kernel_rfl) (by kernel_rfl) (by kernel_rfl) (by kernel_rfl) (by kernel_rfl)
  (by kernel_rfl) (by kernel_rfl) (by kernel_rfl) (by kernel_rfl) (by kernel_rfl) (by kernel_rfl) (by kernel_rfl) (by kernel_rfl) (by kernel_rfl) (by kernel_rfl) (by kernel_rfl) (by kernel_rfl)) (by kernel_rfl)
theorem bDx:SpecOK prog 230 ((Sp.ins 28).run prog):=
 iG (e:=132) (I:=3) (B:=4) (ov:=261) (rr:=262) (fn:=Tryz.f230) (nP (fo:=Tryz.f261) (by kernel_rfl) (by kernel_rfl) (by kernel_rfl) (by kernel_rfl) (by kernel_rfl)
  (by kernel_rfl) (by kernel_rfl) (by kernel_rfl) (by kernel_rfl) (by kernel_rfl) (by kernel_rfl) (by kernel_rfl) (by kernel_rfl) (by kernel_rfl) (by kernel_rfl) (by kernel_rfl) (by kernel_rfl)) (by kernel_rfl)
theorem bDy:SpecOK prog 234 ((Sp.ins 25).run prog):=
 iG (e:=126) (I:=3) (B:=4) (ov:=264) (rr:=265) (fn:=Tryz.f234) (nP (fo:=Tryz.f264) (by kernel_rfl) (by kernel_rfl) (by kernel_rfl) (by kernel_rfl) (by kernel_rfl)
  (by kernel_rfl) (by kernel_rfl) (by kernel_rfl) (by kernel_rfl) (by kernel_rfl) (by kernel_rfl) (by kernel_rfl) (by kernel_rfl) (by kernel_rfl) (by kernel_rfl) (by kernel_rfl) (by kernel_rfl)) (by kernel_rfl)
theorem bDz:SpecOK prog 237 ((Sp.ins 24).run prog):=
 iG (e:=54) (I:=3) (B:=4) (ov:=266) (rr:=267) (fn:=Tryz.f237) (nP (fo:=Tryz.f266) (by kernel_rfl) (by kernel_rfl) (by kernel_rfl) (by kernel_rfl) (by kernel_rfl)
  (by kernel_rfl) (by kernel_rfl) (by kernel_rfl) (by kernel_rfl) (by kernel_rfl) (by kernel_rfl) (by kernel_rfl) (by kernel_rfl) (by kernel_rfl) (by kernel_rfl) (by kernel_rfl) (by kernel_rfl)) (by kernel_rfl)
theorem bE0:SpecOK prog 280 ((Sp.ins 80).run prog):=
 iG (e:=145) (I:=3) (B:=4) (ov:=288) (rr:=289) (fn:=Tryz.f280) (nP (fo:=Tryz.f288) (by kernel_rfl) (by kernel_rfl) (by kernel_rfl) (by kernel_rfl) (by kernel_rfl)
  (by kernel_rfl) (by kernel_rfl) (by kernel_rfl) (by kernel_rfl) (by kernel_rfl) (by kernel_rfl) (by kernel_rfl) (by kernel_rfl) (by kernel_rfl) (by kernel_rfl) (by kernel_rfl) (by kernel_rfl)) (by kernel_rfl)
theorem bE1:SpecOK prog 240 ((Sp.del 28).run prog):=
 aGy (e:=132) (I:=3) (B:=4) (fn:=Tryz.f240) (aP2 (by kernel_rfl) (by kernel_rfl) (by kernel_rfl) (by kernel_rfl) (by kernel_rfl)
  (by kernel_rfl) (by kernel_rfl) (by kernel_rfl) (by kernel_rfl) (by kernel_rfl) (by kernel_rfl) (by kernel_rfl)) (by kernel_rfl)
theorem gW {P:Program} {a b:gU} (h:gF P a=true) (k:gF P b=true):gF P (a++b)=true:=by unfold gF at *;rw [List.all_append,h,k];rfl
theorem bA8:SpAll prog dSp:=⟨bDv,bDw,bDx,bDy,bDz,bE0,bE1,trivial⟩
theorem aP3:aRg=aOo++(aOp++(aOq++(aOr++(aOs++(aOt++(aOu++(aOv++(aOw++(aOx++(aKq++(aKr++(aKs++(aKt++(aKu++(aKv++(aKw)))))))))))))))):=rfl
theorem aW7:gF prog aRg=true:=by
 rw [aP3]
 exact gW aMc (gW aMd (gW aMe (gW aMf (gW aMg (gW aMh (gW aMi (gW aMj (gW aMk (gW aMl (gW aIy (gW aIz (gW aJ0 (gW aJ1 (gW aJ2 (gW aJ3 (aJ4))))))))))))))))
theorem aMo:PlansOK prog tX:=aIj (by kernel_rfl) bA8 aW7
end Go.Proofs.YtoaibmbldmckaaaGreat
end
section
namespace Go.Proofs.YtoaibmbldmckaaaGreat
open Go.AM Tryz
def aJj (y:Int):Bool:=if y.tmod 4=0 then (if y.tmod 100=0 then decide (y.tmod 400=0) else true) else false
def fO (y m:Int):Int:=if m=2 then (if aJj y=true then 29 else 28) else if m=4∨m=6∨m=9∨m=11 then 30 else 31
structure Date where
 y:Int
 m:Int
 d:Int
deriving DecidableEq
def Date.enc (d:Date):List V:=[.int .i64 d.y,.int .i64 d.m,.int .i64 d.d]
def Date.right (d:Date):Bool:=decide (1≤d.y)&&(decide (d.y≤9999)&&(decide (1≤d.m)&&(decide (d.m≤12)&&(decide (1≤d.d)&&decide (d.d≤fO d.y d.m)))))
def ahead (y:Int):Int:=
 wr .i64 (wr .i64 (wr .i64 (wr .i64 (365*wr .i64 (y - 1))+wr .i64 ((wr .i64 (y - 1)).tdiv 4)) - wr .i64 ((wr .i64 (y - 1)).tdiv 100))+wr .i64 ((wr .i64 (y - 1)).tdiv 400))
def lK (y:Int) (n:Int) (i:Nat):Int⊕Int:=.inr (wr .i64 (n+fO y ((i:Int)+1)))
def Date.days (d:Date):Int:=if d.right=true then wr .i64 (wr .i64 (aS (lK d.y) id (List.range (d.m - 1).toNat) (ahead d.y)+d.d) - 1) else -1
def Date.before (a b:Date):Bool:=a.right&&(b.right&&decide (a.days<b.days))
def cN (a b:Int):Int×Int:=
 if (0<b∧wr .i64 (9223372036854775807 - b)<a)∨(b<0∧a<wr .i64 (-9223372036854775808 - b)) then (0,7) else (wr .i64 (a+b),0)
def jO (a b:Int):Int×Int:=
 if (b<0∧wr .i64 (9223372036854775807+b)<a)∨(0<b∧a<wr .i64 (-9223372036854775808+b)) then (0,7) else (wr .i64 (a - b),0)
def fZ (r:Int×Int):V:=.tup [.int .i64 r.1,.int .i64 r.2]
def aMp (n:Int):Int:=wr .u64 ((BitVec.ofInt IntKind.u64.bits (if IntKind.u64.signed then -1 else IntKind.u64.max) ^^^ BitVec.ofInt IntKind.u64.bits n).toNat)
def nQ (n:Int):Int:=if n<0 then wr .u64 (aMp (wr .u64 n)+1) else wr .u64 n
def aA1 (n:Int) (neg:Bool):Int×Bool:=
 if neg=true then (wr .i64 (wr .u64 (aMp n+1)),decide (n≤9223372036854775808)) else (wr .i64 n,decide (n≤9223372036854775807))
def aJk (a b:Int):Int×Int:=
 if 0<nQ b∧wr .u64 ((9223372036854775808:Int).tdiv (nQ b))<nQ a then (0,7) else
  let r:=aA1 (wr .u64 (nQ a*nQ b)) (!(decide (a<0) == decide (b<0)))
  if r.2=true then (r.1,0) else (0,7)
def cD (n bp:Int):Int×Int:=
 if bp<0∨100000<bp then (0,1) else
  let u:=nQ n
  let p:=wr .u64 bp
  let many:=wr .u64 (u.tdiv 10000)
  let rest:=u.tmod 10000
  if 0<p∧wr .u64 ((9223372036854775807:Int).tdiv p)<many then (0,7) else
   let out:=wr .u64 (wr .u64 (many*p)+wr .u64 ((wr .u64 (wr .u64 (wr .u64 (2*rest)*p)+10000)).tdiv (wr .u64 (2*10000))))
   if 9223372036854775807<out then (0,7) else if n<0 then (wr .i64 (0 - wr .i64 out),0) else (wr .i64 out,0)
theorem aB7:wr .u64 (2*10000)=20000:=by decide
theorem bA9:wr .u64 10000=10000:=by decide
def vE (r:Int):Bool:=
 if (97≤r∧r≤122)∨(65≤r∧r≤90) then true else if r=215 then false else if r=247 then false else decide (192≤r)&&decide (r≤591)
def mP (s:List UInt8):Nat→Nat→List (Nat×Nat)
 | 0,_=>[]
 | f+1,pos=>if pos<s.length then (pos,(Utf8.decode ⟨⟨s⟩⟩ pos).1)::mP s f (pos+(Utf8.decode ⟨⟨s⟩⟩ pos).2) else []
theorem aHe (s:ByteArray) (i:Nat):1≤(Utf8.decode s i).2:=by
 unfold Utf8.decode
 simp only
 repeat' split
 all_goals simp
def vF (_:Unit) (x:Nat×Nat):Bool⊕Unit:=
 if vE x.2=true then .inr () else if x.1=0 then .inl false else if (48≤x.2∧x.2≤57)∨x.2=45∨x.2=95∨x.2=46 then .inr () else .inl false
def eJ (s:List UInt8):Bool:=if s.length<1 then false else if 24<s.length then false else aS vF (fun _=>true) (mP s s.length 0) ()
structure Rate where
 cat:List UInt8
 day:Date
 bp:Int
deriving DecidableEq
def Rate.enc (r:Rate):List V:=[.str r.cat,.int .i64 r.day.y,.int .i64 r.day.m,.int .i64 r.day.d,.int .i64 r.bp]
def tF (r:Rate):Int:=if eJ r.cat=false then 8 else if r.day.right=false then 9 else if r.bp<0 then 10 else if 100000<r.bp then 10 else 0
def fJ (a b:Rate):Bool:=if fF a.cat b.cat=true then true else if (a.cat == b.cat)=true then a.day.before b.day else false
def iH (prev:Option Rate) (r:Rate):Bool⊕Option Rate:=
 if tF r≠0 then .inl false else match prev with
  | none=>.inr (some r)
  | some p=>if fJ p r=true then .inr (some r) else .inl false
def fU (l:List Rate):Bool:=if 24<l.length then false else aS iH (fun _=>true) l none
def fV {α:Type} (l:List α) (i:Nat):Option α:=if i=0 then none else l[i - 1]?
structure Rep where
 why:Int
 number:Int
 gross:Int
deriving DecidableEq
structure Sess where
 id:Int
 last:Int
 reply:Rep
deriving DecidableEq
def Rep.enc (r:Rep):List V:=[.int .i64 r.why,.int .i64 r.number,.int .i64 r.gross]
def Sess.enc (s:Sess):List V:=[.int .i64 s.id,.int .i64 s.last,.int .i64 s.reply.why,.int .i64 s.reply.number,.int .i64 s.reply.gross]
def Rep.zero:Rep:=⟨0,0,0⟩
def iT (last:Int) (s:Sess):Bool⊕Int:=
 if s.id≤last then .inl false else if s.last<0 then .inl false else if 1099511627776<s.last then .inl false else if s.last=0∧s.reply≠Rep.zero then .inl false else .inr s.id
def gA (l:List Sess):Bool:=if 8<l.length then false else aS iT (fun _=>true) l 0
def eQ {α:Type} (p:α→Bool) (n:Nat) (a:α):Int⊕Nat:=if p a=true then .inl (n:Int) else .inr (n+1)
def ixM {α:Type} (p:α→Bool) (l:List α):Int:=aS (eQ p) (fun _=>-1) l 0
theorem aD2 {α:Type} (p:α→Bool):∀ (l:List α) (n:Nat),(aS (eQ p) (fun _=>-1) l n=-1)∨∃ (i:Nat) (a:α),aS (eQ p) (fun _=>-1) l n=((n+i:Nat):Int)∧l[i]?=some a∧p a=true
 | [],n=>.inl rfl
 | a::l,n=>by
  by_cases h:p a=true
  ·refine .inr ⟨0,a,?_,rfl,h⟩
   simp [aS,eQ,h]
  ·rcases aD2 p l (n+1) with h1 | ⟨i,b,h1,h2,h3⟩
   ·left;simp [aS,eQ,h,h1]
   ·right
    refine ⟨i+1,b,?_,by simpa using h2,h3⟩
    simp only [aS,eQ,h,if_false]
    simp only [h1,Bool.false_eq_true,if_false]
    omega
theorem rO {α:Type} (p:α→Bool) (l:List α):(ixM p l=-1)∨∃ (i:Nat) (a:α),ixM p l=(i:Int)∧l[i]?=some a∧p a=true:=by
 rcases aD2 p l 0 with h | ⟨i,a,h1,h2,h3⟩
 ·exact .inl h
 ·exact .inr ⟨i,a,by rw [ixM,h1];simp,h2,h3⟩
def gK (l:List Sess) (id:Int):Int:=ixM (fun s:Sess=>decide (s.id=id)) l
def cJ (l:List Sess) (id seq:Int):Rep×Bool×Int:=
 if gA l=false then (Rep.zero,false,1) else if gK l id<0 then (Rep.zero,false,15) else if seq<1∨1099511627776<seq then (Rep.zero,false,1) else
  match l[(gK l id).toNat]? with
  | none=>(Rep.zero,false,1)
  | some s=>if seq=s.last then (s.reply,true,0) else if seq<s.last then (Rep.zero,false,16) else (Rep.zero,false,0)
theorem lL {l:List Sess} (h:gA l=true):l.length≤8:=by
 unfold gA at h
 split at h
 ·cases h
 ·omega
theorem iU (l:List Sess) (id:Int):gK l id=-1∨∃ (i:Nat) (s:Sess),gK l id=(i:Int)∧l[i]?=some s∧s.id=id:=by
 rcases rO (fun s:Sess=>decide (s.id=id)) l with h | ⟨i,s,h1,h2,h3⟩
 ·exact .inl h
 ·exact .inr ⟨i,s,h1,h2,of_decide_eq_true h3⟩
def eK {α:Type} (p:α→Bool) (n:Nat) (a:α):Nat⊕Nat:=if p a=true then .inr (n+1) else .inl n
def kR {α:Type} (p:α→Bool) (l:List α):Nat:=aS (eK p) id l 0
theorem aD3 {α:Type} (p:α→Bool):∀ (l:List α) (n:Nat),aS (eK p) id l n≤n+l.length
 | [],n=>by simp [aS]
 | a::l,n=>by
  have ih:=aD3 p l (n+1)
  by_cases h:p a=true
  ·simp only [aS,eK,h,if_true,List.length_cons];omega
  ·simp only [aS,eK,h,if_false,List.length_cons,Bool.false_eq_true];omega
theorem vG {α:Type} (p:α→Bool) (l:List α):kR p l≤l.length:=by have:=aD3 p l 0;simp only [kR];omega
def eY {α:Type} (l:List α) (i:Nat) (a:α):List α:=l.take i++a::l.drop i
theorem lM {α β:Type} (f:α→β) (l:List α) (i:Nat) (a:α):(eY l i a).map f=(l.map f).take i++f a::(l.map f).drop i:=by simp [eY,List.map_take,List.map_drop]
def mQ (l:List Sess) (id:Int):List Sess×Int:=
 if gA l=false∨id<1 then ([],1) else if 0≤gK l id then ([],12) else if 8≤l.length then ([],14) else (eY l (kR (fun s=>decide (s.id<id)) l) ⟨id,0,Rep.zero⟩,0)
def tG {α:Type} (l:List α) (i:Nat):List α:=l.take i++l.drop (i+1)
theorem aJl {α β:Type} (f:α→β) (l:List α) (i:Nat):(tG l i).map f=(l.map f).take i++(l.map f).drop (i+1):=by simp [tG,List.map_take,List.map_drop]
def fW (l:List Sess) (id:Int):List Sess×Int:=
 if gA l=false then ([],1) else if gK l id<0 then ([],11) else (tG l (gK l id).toNat,0)
def jE (l:List Sess) (id seq:Int) (r:Rep):List Sess×Int:=
 if (cJ l id seq).2.2≠0 then ([],(cJ l id seq).2.2) else if (cJ l id seq).2.1=true then ([],12) else
  match l[(gK l id).toNat]? with
  | none=>([],0)
  | some s=>(l.set (gK l id).toNat ⟨s.id,seq,r⟩,0)
theorem aB8 {l:List Sess} {id seq:Int} (h:(cJ l id seq).2.2=0):gA l=true∧∃ (i:Nat) (s:Sess),gK l id=(i:Int)∧l[i]?=some s:=by
 unfold cJ at h
 split at h
 ·cases h
 ·rename_i hr
  have hr:gA l=true:=by simpa using hr
  split at h
  ·cases h
  ·rcases iU l id with h' | ⟨i,s,h1,h2,_⟩
   ·omega
   ·exact ⟨hr,i,s,h1,h2⟩
structure Ser where
 name:List UInt8
 next:Int
 limit:Int
 shut:Bool
deriving DecidableEq
def Ser.enc (s:Ser):List V:=[.str s.name,.int .i64 s.next,.int .i64 s.limit,.bool s.shut]
def hM (l:List Ser) (name:List UInt8):Int:=ixM (fun s:Ser=>s.name == name) l
theorem kK (l:List Ser) (name:List UInt8):hM l name=-1∨∃ (i:Nat) (s:Ser),hM l name=(i:Int)∧l[i]?=some s∧s.name=name:=by
 rcases rO (fun s:Ser=>s.name == name) l with h | ⟨i,s,h1,h2,h3⟩
 ·exact .inl h
 ·exact .inr ⟨i,s,h1,h2,by simpa using h3⟩
def qK (s:Ser):Bool:=decide (s.limit<1)||(decide (1099511627776<s.limit)||(decide (s.next<1)||decide (wr .i64 (s.limit+1)<s.next)))
def nR (prev:Option Ser) (s:Ser):Bool:=match prev with
 | none=>false
 | some p=>!fF p.name s.name
def mR (prev:Option Ser) (s:Ser):Bool⊕Option Ser:=
 if eJ s.name=false then .inl false else if nR prev s=true then .inl false else if qK s=true then .inl false else .inr (some s)
def mI (l:List Ser):Bool:=if 8<l.length then false else aS mR (fun _=>true) l none
theorem nU {l:List Ser} (h:mI l=true):l.length≤8:=by
 unfold mI at h
 split at h
 ·cases h
 ·omega
def hN (l:List Ser) (name:List UInt8):Int×Int:=
 if mI l=false then (0,1) else if hM l name<0 then (0,11) else match l[(hM l name).toNat]? with
  | none=>(0,1)
  | some s=>if s.shut=true then (0,13) else (hM l name,0)
theorem vH {l:List Ser} {name:List UInt8} (h:(hN l name).2=0):mI l=true∧∃ (i:Nat) (s:Ser),hN l name=((i:Int),0)∧hM l name=(i:Int)∧l[i]?=some s∧s.name=name∧s.shut=false:=by
 unfold hN at h
 split at h
 ·cases h
 ·rename_i hr
  have hr:mI l=true:=by simpa using hr
  split at h
  ·cases h
  ·rename_i h11
   rcases kK l name with h' | ⟨i,s,h1,h2,h3⟩
   ·omega
   ·rw [h1] at h
    simp only [Int.toNat_natCast,h2] at h
    split at h
    ·cases h
    ·rename_i hsh
     refine ⟨hr,i,s,?_,h1,h2,h3,by simpa using hsh⟩
     unfold hN
     rw [if_neg (by rw [hr];simp),if_neg h11,h1]
     simp only [Int.toNat_natCast,h2,if_neg hsh]
def nV (l:List Ser) (name:List UInt8):List Ser×Int:=
 if (hN l name).2≠0 then ([],(hN l name).2) else match l[(hN l name).1.toNat]? with
  | none=>([],0)
  | some s=>(l.set (hN l name).1.toNat { s with shut:=true },0)
def dA (l:List Ser) (name:List UInt8):List Ser×Int×Int:=
 if (hN l name).2≠0 then ([],0,(hN l name).2) else match l[(hN l name).1.toNat]? with
  | none=>([],0,0)
  | some s=>if s.limit<s.next then ([],0,14) else (l.set (hN l name).1.toNat { s with next:=wr .i64 (s.next+1) },s.next,0)
def eT (l:List Ser) (name:List UInt8) (limit:Int):List Ser×Int:=
 if mI l=false then ([],1) else if eJ name=false then ([],8) else if limit<1∨1099511627776<limit then ([],1) else if 0≤hM l name then ([],12) else if 8≤l.length then ([],14) else
  (eY l (kR (fun s=>fF s.name name) l) ⟨name,1,limit,false⟩,0)
def Ser.zero:Ser:=⟨[],0,0,false⟩
def jX (l:List Ser) (name:List UInt8):Ser×Bool:=match (if hM l name<0 then none else l[(hM l name).toNat]?) with
 | none=>(Ser.zero,false)
 | some s=>(s,true)
def iV (cat:List UInt8) (d:Date) (st:Int×Bool) (r:Rate):(Int×Bool)⊕(Int×Bool):=.inr (if (r.cat == cat)=true∧d.before r.day=false then (r.bp,true) else st)
def hU (l:List Rate) (cat:List UInt8) (d:Date):Int×Bool:=if fU l=false then (0,false) else if d.right=false then (0,false) else aS (iV cat d) id l (0,false)
theorem tH {l:List Rate} (h:fU l=true):l.length≤24:=by
 unfold fU at h
 split at h
 ·cases h
 ·omega
def jY (r:Rate) (k:Nat) (x:Rate):Option Nat⊕Nat:=
 if (x.cat == r.cat)=true∧x.day=r.day then .inl none else .inr (if fJ x r=true then k+1 else k)
def gP (l:List Rate) (r:Rate):List Rate×Int:=
 if fU l=false then ([],1) else if tF r≠0 then ([],tF r) else match aS (jY r) some l 0 with
  | none=>([],12)
  | some k=>if 24≤l.length then ([],2) else (eY l k r,0)
structure Bal where
 acc:List UInt8
 amount:Int
deriving DecidableEq
def Bal.enc (b:Bal):List V:=[.str b.acc,.int .i64 b.amount]
structure Part where
 cat:List UInt8
 bp:Int
 net:Int
 tax:Int
deriving DecidableEq
def Part.enc (p:Part):List V:=[.str p.cat,.int .i64 p.bp,.int .i64 p.net,.int .i64 p.tax]
structure Total where
 net:Int
 tax:Int
 gross:Int
 parts:List Part
deriving DecidableEq
def Total.cells (t:Total) (pv:V):List V:=[.int .i64 t.net,.int .i64 t.tax,.int .i64 t.gross,pv]
def aB9 (prev:Option Bal) (b:Bal):Bool⊕Option Bal:=match prev with
 | none=>.inl false
 | some p=>if fF p.acc b.acc=true then .inr (some b) else .inl false
def aD4 (l:List Bal):Bool:=aS aB9 (fun _=>true) (l.drop 1) l[0]?
def aMq:List UInt8:=[110,101,116,47]
def aMr:List UInt8:=[116,97,120,47]
def rP (l:List Bal) (p:Part):(List Bal×Int)⊕List Bal:=
 if (jO 0 p.net).2≠0 then .inl ([],7) else if (jO 0 p.tax).2≠0 then .inl ([],7) else .inr (l++[⟨aMq++p.cat,(jO 0 p.net).1⟩,⟨aMr++p.cat,(jO 0 p.tax).1⟩])
def eF (t:Total):List Bal×Int:=aS rP (fun l=>(l,0)) t.parts [⟨[111,119,101,100],t.gross⟩]
theorem aHg:∀ (l:List Part) (a:List Bal) (r:List Bal×Int),aS rP (fun l=>(l,0)) l a=r→r.2=0→r.1.length=a.length+2*l.length
 | [],a,r,h,_=>by subst h;simp [aS]
 | p::l,a,r,h,h0=>by
  simp only [aS,rP] at h
  split at h
  ·rename_i r' he
   split at he
   ·cases he;subst h;cases h0
   ·split at he
    ·cases he;subst h;cases h0
    ·cases he
  ·rename_i s' he
   split at he
   ·cases he
   ·split at he
    ·cases he
    ·cases he
     have:=aHg l _ r h h0
     simp only [List.length_append,List.length_cons,List.length_nil] at this ⊢
     omega
theorem wY {α:Type} (l:List α) (i:Nat) (a:α) (h:i≤l.length):(eY l i a)[i]?=some a:=by
 unfold eY
 rw [List.getElem?_append_right (by rw [List.length_take];omega),List.length_take,Nat.min_eq_left h,Nat.sub_self]
 rfl
theorem wZ {α:Type} (l:List α) (i:Nat) (a:α) (h:i≤l.length):(eY l i a).length=l.length+1:=by
 simp only [eY,List.length_append,List.length_take,List.length_cons,List.length_drop];omega
def cA (l:List Bal) (acc:List UInt8):Nat:=kR (fun b=>fF b.acc acc) l
def mS (l:List Bal) (acc:List UInt8):Bool:=match l[cA l acc]? with
 | none=>true
 | some b=>!(b.acc == acc)
def eD (l:List Bal) (acc:List UInt8):List Bal:=if mS l acc=true then eY l (cA l acc) ⟨acc,0⟩ else l
def dN (l:List Bal) (x:Bal):(List Bal×Int)⊕List Bal:=match (eD l x.acc)[cA l x.acc]? with
 | none=>.inl ([],0)
 | some b=>if (cN b.amount x.amount).2≠0 then .inl ([],(cN b.amount x.amount).2) else .inr ((eD l x.acc).set (cA l x.acc) ⟨b.acc,(cN b.amount x.amount).1⟩)
def cW (book l:List Bal):List Bal×Int:=if aD4 book=false then ([],1) else aS dN (fun l=>(l,0)) l book
theorem qL (l:List Bal) (acc:List UInt8):cA l acc≤l.length:=vG _ _
theorem yJ (l:List Bal) (acc:List UInt8):∃ b,(eD l acc)[cA l acc]?=some b:=by
 unfold eD
 split
 ·exact ⟨_,wY _ _ _ (qL l acc)⟩
 ·rename_i h
  unfold mS at h
  split at h
  ·exact absurd rfl h
  ·rename_i b hb;exact ⟨b,hb⟩
theorem yK (l:List Bal) (acc:List UInt8):(eD l acc).length≤l.length+1:=by
 unfold eD
 split
 ·rw [wZ _ _ _ (qL l acc)];exact Nat.le_refl _
 ·omega
theorem oX (l:List Bal) (x:Bal):dN l x=if (cN ((eD l x.acc)[cA l x.acc]?.map (·.amount) |>.getD 0) x.amount).2≠0 then .inl ([],(cN ((eD l x.acc)[cA l x.acc]?.map (·.amount) |>.getD 0) x.amount).2)
  else .inr ((eD l x.acc).set (cA l x.acc) ⟨((eD l x.acc)[cA l x.acc]?.map (·.acc) |>.getD []),(cN ((eD l x.acc)[cA l x.acc]?.map (·.amount) |>.getD 0) x.amount).1⟩):=by
 obtain ⟨b,hb⟩:=yJ l x.acc
 unfold dN
 simp only [hb,Option.map_some,Option.getD_some]
theorem aC9 {l l':List Bal} {x:Bal} (h:dN l x=.inr l'):l'.length≤l.length+1:=by
 rw [oX] at h
 split at h
 ·cases h
 ·cases h
  rw [List.length_set]
  exact yK l x.acc
theorem aBa:∀ (l:List Bal) (a:List Bal) (r:List Bal×Int),aS dN (fun l=>(l,0)) l a=r→r.1.length≤a.length+l.length
 | [],a,r,h=>by subst h;simp [aS]
 | x::l,a,r,h=>by
  simp only [aS] at h
  split at h
  ·rename_i r' he
   subst h
   rw [oX] at he
   split at he
   ·cases he;simp
   ·cases he
  ·rename_i s' he
   have h1:=aC9 he
   have:=aBa l _ r h
   simp only [List.length_cons]
   omega
def gX (n:Int):List V:=[.int .i64 n]
theorem aMs (n:Int):0≤wr .u64 n∧wr .u64 n<18446744073709551616:=by
 unfold wr lo hi
 simp only
 split
 ·omega
 ·show 0≤n % 18446744073709551616∧n % 18446744073709551616<18446744073709551616
  omega
theorem bE2:aMp 0=18446744073709551615:=by decide
def rQ (st:Int×Int) (n:Int):(Int×Bool)⊕(Int×Int):=
 .inr ((st.1+(if n<0 then 18446744073709551615 else 0)+(st.2+wr .u64 n+0) / 18446744073709551616) % 18446744073709551616,(st.2+wr .u64 n+0) % 18446744073709551616)
def qM (st:Int×Int):Int×Bool:=(wr .i64 st.2,if st.2.fdiv (2 ^ 63)=0 then decide (st.1=0) else decide (st.1=18446744073709551615))
def gY (l:List Int):Int×Bool:=aS rQ qM l (0,0)
structure Line where
 text:List UInt8
 cat:List UInt8
 count:Int
 price:Int
deriving DecidableEq
def Line.enc (l:Line):List V:=[.str l.text,.str l.cat,.int .i64 l.count,.int .i64 l.price]
def eZ (tab:List Rate) (d:Date) (l:Line):Int×Int×Int:=
 if 64<l.text.length then (0,0,2) else if eJ l.cat=false then (0,0,8) else if l.count<1∨1048576<l.count then (0,0,1) else
  if (hU tab l.cat d).2=false then (0,0,10) else ((hU tab l.cat d).1,(aJk l.count l.price).1,(aJk l.count l.price).2)
def aP4 (r:Int×Int×Int):V:=.tup [.int .i64 r.1,.int .i64 r.2.1,.int .i64 r.2.2]
def bS (l:List Part) (cat:List UInt8):Nat:=kR (fun p=>fF p.cat cat) l
def iW (l:List Part) (cat:List UInt8):Bool:=match l[bS l cat]? with
 | none=>true
 | some b=>!(b.cat == cat)
def dM (l:List Part) (cat:List UInt8) (bp:Int):List Part:=if iW l cat=true then eY l (bS l cat) ⟨cat,bp,0,0⟩ else l
def pQ (l:List Part) (cat:List UInt8) (bp n:Int):List Part×Int:=match (dM l cat bp)[bS l cat]? with
 | none=>([],0)
 | some p=>((dM l cat bp).set (bS l cat) { p with net:=(cN p.net n).1 },(cN p.net n).2)
theorem oY (l:List Part) (cat:List UInt8):bS l cat≤l.length:=vG _ _
theorem oZ (l:List Part) (cat:List UInt8) (bp:Int):∃ b,(dM l cat bp)[bS l cat]?=some b:=by
 unfold dM
 split
 ·exact ⟨_,wY _ _ _ (oY l cat)⟩
 ·rename_i h
  unfold iW at h
  split at h
  ·exact absurd rfl h
  ·rename_i b hb;exact ⟨b,hb⟩
theorem aFq (l:List Part) (cat:List UInt8) (bp:Int):(dM l cat bp).length≤l.length+1:=by
 unfold dM
 split
 ·rw [wZ _ _ _ (oY l cat)];exact Nat.le_refl _
 ·omega
theorem aHh (l:List Part) (cat:List UInt8) (bp n:Int):(pQ l cat bp n).1.length≤l.length+1:=by
 obtain ⟨b,hb⟩:=oZ l cat bp
 unfold pQ
 rw [hb]
 simp only [List.length_set]
 exact aFq l cat bp
def Total.zero:Total:=⟨0,0,0,[]⟩
def fS (st:Int×Int×List Part) (p:Part):(Total×Int)⊕(Int×Int×List Part):=
 if (cD p.net p.bp).2≠0∨(cN st.1 p.net).2≠0∨(cN st.2.1 (cD p.net p.bp).1).2≠0 then .inl (Total.zero,7) else
  .inr ((cN st.1 p.net).1,(cN st.2.1 (cD p.net p.bp).1).1,st.2.2++[{ p with tax:=(cD p.net p.bp).1 }])
def kL (st:Int×Int×List Part):Total×Int:=
 if (cN st.1 st.2.1).2≠0 then (Total.zero,(cN st.1 st.2.1).2) else (⟨st.1,st.2.1,(cN st.1 st.2.1).1,st.2.2⟩,0)
def eR (l:List Part):Total×Int:=aS fS kL l (0,0,[])
def hZ (tab:List Rate) (d:Date) (parts:List Part) (l:Line):(Total×Int)⊕List Part:=
 if (eZ tab d l).2.2≠0 then .inl (Total.zero,(eZ tab d l).2.2) else
  if (pQ parts l.cat (eZ tab d l).1 (eZ tab d l).2.1).2≠0 then .inl (Total.zero,(pQ parts l.cat (eZ tab d l).1 (eZ tab d l).2.1).2) else
   .inr (pQ parts l.cat (eZ tab d l).1 (eZ tab d l).2.1).1
def dH (tab:List Rate) (d:Date) (lines:List Line):Total×Int:=
 if fU tab=false then (Total.zero,1) else if d.right=false then (Total.zero,9) else if lines.length=0 then (Total.zero,1) else if 12<lines.length then (Total.zero,2) else
  aS (hZ tab d) eR lines []
structure But (a:Nat) (S S':St):Prop where
 old:∀ y b,y≠a→S.heap.get y=some b→S'.heap.get y=some b
 next:S.next≤S'.next
 wf:WF S→WF S'
def nW (n:Int):V:=.int .i64 n
def rR (done:List Int) (x:Int):(List Int×Int)⊕List Int:=if (jO 0 x).2≠0 then .inl ([],(jO 0 x).2) else .inr (done++[(jO 0 x).1])
def gQ (l:List Int):List Int×Int:=aS rR (fun l=>(l,0)) l []
def dW (acc:List Part) (p:Part):(List Part×Int)⊕List Part:=
 if (gQ [p.net,p.tax]).2≠0 then .inl ([],(gQ [p.net,p.tax]).2) else .inr (acc++[{ p with net:=(gQ [p.net,p.tax]).1.getD 0 0,tax:=(gQ [p.net,p.tax]).1.getD 1 0 }])
def bT (t:Total):Total×Int:=
 if (gQ [t.net,t.tax,t.gross]).2≠0 then (Total.zero,(gQ [t.net,t.tax,t.gross]).2) else
  if (aS dW (fun l=>(l,0)) t.parts []).2≠0 then (Total.zero,(aS dW (fun l=>(l,0)) t.parts []).2) else
   (⟨(gQ [t.net,t.tax,t.gross]).1.getD 0 0,(gQ [t.net,t.tax,t.gross]).1.getD 1 0,(gQ [t.net,t.tax,t.gross]).1.getD 2 0,(aS dW (fun l=>(l,0)) t.parts []).1⟩,0)
structure Ref where
 ser:List UInt8
 num:Int
deriving DecidableEq
def Ref.enc (r:Ref):List V:=[.str r.ser,.int .i64 r.num]
def Ref.zero:Ref:=⟨[],0⟩
structure Posted where
 ref:Ref
 day:Date
 total:Total
 of:Ref
 back:Bool
deriving DecidableEq
def Posted.cells (p:Posted) (pv:V):List V:=[.str p.ref.ser,.int .i64 p.ref.num,.int .i64 p.day.y,.int .i64 p.day.m,.int .i64 p.day.d,.int .i64 p.total.net,.int .i64 p.total.tax,.int .i64 p.total.gross,pv,.str p.of.ser,.int .i64 p.of.num,.bool p.back]
abbrev PV:=Posted×V
theorem aW8 {α β:Type} (f:α→β) (p:β→Bool) (l:List α):ixM (fun a=>p (f a)) l=ixM p (l.map f):=by
 have:∀ (l:List α) (n:Nat),aS (eQ fun a=>p (f a)) (fun _=>(-1:Int)) l n=aS (eQ p) (fun _=>-1) (l.map f) n:=by
  intro l
  induction l with
  | nil=>intro n;rfl
  | cons a l ih=>
   intro n
   simp only [aS,List.map_cons,eQ]
   by_cases h:p (f a)=true
   ·simp only [h,if_true]
   ·simp only [h,if_false]
    exact ih (n+1)
 exact this l 0
def cK (l:List Posted) (r:Ref):Int:=ixM (fun p:Posted=>decide (p.ref=r)) l
theorem lD (l:List Posted) (r:Ref):cK l r=-1∨∃ (i:Nat) (s:Posted),cK l r=(i:Int)∧l[i]?=some s∧s.ref=r:=by
 rcases rO (fun p:Posted=>decide (p.ref=r)) l with h | ⟨i,s,h1,h2,h3⟩
 ·exact .inl h
 ·exact .inr ⟨i,s,h1,h2,by simpa using h3⟩
def pA {α:Type} [DecidableEq α] (r:List α) (n:Nat) (a:α):Bool⊕Nat:=if r[n]?=some a then .inr (n+1) else .inl false
theorem eqL {α:Type} [DecidableEq α] {l r:List α} (h:l.length=r.length):aS (pA r) (fun _=>true) l 0=decide (l=r):=by
 have:∀ (l t r:List α),l.length=(r.drop t.length).length→r.take t.length=t→aS (pA r) (fun _=>true) l t.length=decide (l=r.drop t.length):=by
  intro l
  induction l with
  | nil=>
   intro t r h1 h2
   have:r.drop t.length=[]:=List.length_eq_zero_iff.1 h1.symm
   rw [this];rfl
  | cons a l ih=>
   intro t r h1 h2
   have hlt:t.length<r.length:=by rw [List.length_drop] at h1;simp only [List.length_cons] at h1;omega
   rw [List.drop_eq_getElem_cons hlt]
   simp only [aS,pA,List.getElem?_eq_getElem hlt]
   by_cases c:r[t.length]=a
   ·have e1:(t++[a]).length=t.length+1:=by simp
    have:=ih (t++[a]) r (by rw [e1];rw [List.length_drop] at h1 ⊢;simp only [List.length_cons] at h1;omega) (by rw [e1,List.take_succ_eq_append_getElem hlt,h2,c])
    rw [e1] at this
    simp only [c,if_true]
    rw [this]
    by_cases d:l=r.drop (t.length+1)<;>simp [d]
   ·have c':¬ (some r[t.length]=some a):=fun e=>c (Option.some.inj e)
    simp only [c',if_false]
    rw [eq_comm,decide_eq_false_iff_not]
    intro e
    exact c (List.cons.inj e).1.symm
 have:=this l [] r (by simpa using h) rfl
 simpa using this
def blkOf:V→Option Nat
 | .sl a _ _ _ _=>some a
 | _=>none
def sH (t:Total):Bool:=
 if (gY (t.parts.map (·.net))).2=true then (if (gY (t.parts.map (·.tax))).2=true then (if (gY [t.net,t.tax]).2=true then
  (if (gY (t.parts.map (·.net))).1=t.net then (if (gY (t.parts.map (·.tax))).1=t.tax then decide ((gY [t.net,t.tax]).1=t.gross) else false) else false) else false) else false) else false
def aA2 (st:List Int×List Int) (p:Part):(List Int×List Int)⊕(List Int×List Int):=.inr (st.1++[p.net],st.2++[p.tax])
theorem bE3:∀ (l:List Part) (a b:List Int),aS aA2 id l (a,b)=(a++l.map (·.net),b++l.map (·.tax))
 | [],a,b=>by simp [aS]
 | p::l,a,b=>by simp only [aS,aA2];rw [bE3 l];simp
def lN (prev:Option Part) (s:Part):Bool:=match prev with
 | none=>false
 | some p=>!fF p.cat s.cat
def vI (s:Part):Bool:=decide (s.bp<0)||decide (100000<s.bp)
def vJ (s:Part):Bool:=!decide ((cD s.net s.bp).2=0)||!decide ((cD s.net s.bp).1=s.tax)
def fA (prev:Option Part) (s:Part):Bool⊕Option Part:=
 if eJ s.cat=false then .inl false else if lN prev s=true then .inl false else if vI s=true then .inl false else if vJ s=true then .inl false else .inr (some s)
def eE (t:Total):Bool:=if t.parts.length<1 then false else if 12<t.parts.length then false else aS fA (fun _=>sH t) t.parts none
def nC (p fr:Posted):Bool:=if fr.of=Ref.zero then (if p.day.before fr.day=false then (if (bT fr.total).2=0 then decide ((bT fr.total).1=p.total) else false) else false) else false
theorem aD5:∀ (l a:List Part) (r:List Part×Int),aS dW (fun l=>(l,0)) l a=r→r.1.length≤a.length+l.length
 | [],a,r,h=>by subst h;simp [aS]
 | x::l,a,r,h=>by
  simp only [aS] at h
  split at h
  ·rename_i r' he
   subst h
   unfold dW at he
   split at he
   ·cases he;simp
   ·cases he
  ·rename_i a' he
   unfold dW at he
   split at he
   ·cases he
   ·cases he
    have:=aD5 l _ r h
    simp only [List.length_append,List.length_cons,List.length_nil] at this ⊢
    omega
theorem xA (t:Total):(bT t).1.parts.length≤t.parts.length:=by
 unfold bT
 split
 ·simp [Total.zero]
 ·split
  ·simp [Total.zero]
  ·have:=aD5 t.parts [] _ rfl
   simpa using this
def cO (book:List Bal) (p:Posted):(List Bal×Int)⊕List Bal:=
 if (eF p.total).2≠0 then .inl ([],(eF p.total).2) else if (cW book (eF p.total).1).2≠0 then .inl ([],(cW book (eF p.total).1).2) else .inr (cW book (eF p.total).1).1
def dY (l:List Posted):List Bal×Int:=aS cO (fun b=>(b,0)) l []
theorem tJ (book l:List Bal):(cW book l).1.length≤book.length+l.length:=by
 unfold cW
 split
 ·simp
 ·exact aBa l book _ rfl
theorem vK (t:Total):(eF t).1.length≤1+2*t.parts.length∨(eF t).2≠0:=by
 by_cases h:(eF t).2=0
 ·exact .inl (by have:=aHg t.parts _ _ rfl h;simp only [List.length_cons,List.length_nil] at this;unfold eF;omega)
 ·exact .inr h
def aCa:List V:=[.str [],.int .i64 0,.int .i64 0,.int .i64 0,.int .i64 0,.int .i64 0,.int .i64 0,.int .i64 0,.nils,.str [],.int .i64 0,.bool false]
def Fit (p:Posted):Prop:=p.total.parts.length≤12∧∀ q∈p.total.parts,q.cat.length≤1000000
def bump (l:List Int) (k:Nat):List Int:=l.set k (l.getD k 0+1)
def fP (st:List Posted×List Int) (p:Posted):Bool⊕(List Posted×List Int):=
 if p.day.right=false then .inl false else if eE p.total=false then .inl false else if p.of=Ref.zero then .inr (st.1++[p],st.2) else
  if cK st.1 p.of<0 then .inl false else if nC p (st.1.getD (cK st.1 p.of).toNat ⟨Ref.zero,⟨0,0,0⟩,Total.zero,Ref.zero,false⟩)=false then .inl false else
   .inr (st.1++[p],bump st.2 (cK st.1 p.of).toNat)
def gR (bs:List Int) (p:Posted):Bool⊕List Int:=if 1<bs.headD 0 then .inl false else if p.back=decide (bs.headD 0=1) then .inr bs.tail else .inl false
def iA (l:List Posted):Bool:=if 40<l.length then false else aS fP (fun st=>aS gR (fun _=>true) l st.2) l ([],List.replicate 40 0)
theorem iI {t:Total} (h:eE t=true):t.parts.length≤12:=by
 unfold eE at h
 split at h
 ·cases h
 ·split at h
  ·cases h
  ·omega
theorem vL (l:List Int) (k:Nat) (h:k<l.length):l.getD k 0=l[k]:=by rw [List.getD_eq_getElem?_getD,List.getElem?_eq_getElem h];rfl
structure State where
 table:List Rate
 ser:List Ser
 posted:List Posted
 book:List Bal
 sess:List Sess
 next:Int
deriving DecidableEq
structure SV where
 t:V
 s:V
 p:V
 b:V
 e:V
 qs:List PV
def SV.cells (x:SV) (n:Int):List V:=[x.t,x.s,x.p,x.b,x.e,.int .i64 n]
def jZ (ser:List Ser) (is:List Int) (p:Posted):Bool⊕List Int:=
 if hM ser p.ref.ser<0 then .inl false else if p.ref.num=(bump is (hM ser p.ref.ser).toNat).getD (hM ser p.ref.ser).toNat 0 then .inr (bump is (hM ser p.ref.ser).toNat) else .inl false
def iX (is:List Int) (s:Ser):Bool⊕List Int:=if s.next=is.headD 0+1 then .inr is.tail else .inl false
def lV (ser:List Ser) (l:List Posted):Bool:=aS (jZ ser) (fun is=>aS iX (fun _=>true) ser is) l (List.replicate 8 0)
theorem vM (l:List Int) (k:Nat):(bump l k).length=l.length:=List.length_set ..
theorem aP5 (l:List Int) (k:Nat) (h:k<l.length):(bump l k).getD k 0=l[k]+1:=by
 rw [List.getD_eq_getElem?_getD,bump,List.getElem?_set_self h,vL l k h];rfl
def aBb (l:List Sess) (next:Int):Bool:=match l[l.length - 1]? with
 | none=>true
 | some s=>decide (s.id<next)
def jP (s:State):Bool:=if gA s.sess=true then (if 1≤s.next then (if s.next≤1099511627776 then aBb s.sess s.next else false) else false) else false
theorem aBc {σ α:Type} {step:σ→α→Bool⊕σ} {fin:σ→Bool} (hs:∀ s a r,step s a=.inl r→r=false):∀ (l:List α) (s:σ),aS step fin l s=true→∀ a∈l,∃ s s',step s a=.inr s'
 | [],s,h,a,ha=>by cases ha
 | b::l,s,h,a,ha=>by
  simp only [aS] at h
  split at h
  ·rename_i r he
   have:=hs s b r he
   rw [this] at h;cases h
  ·rename_i s' he
   rcases List.mem_cons.1 ha with rfl | ha
   ·exact ⟨s,s',he⟩
   ·exact aBc hs l s' h a ha
theorem aD6 {s:List UInt8} (h:eJ s=true):s.length≤24:=by
 unfold eJ at h
 split at h
 ·cases h
 ·split at h
  ·cases h
  ·omega
theorem aFr {t:Total} (h:eE t=true):∀ q∈t.parts,eJ q.cat=true:=by
 unfold eE at h
 split at h
 ·cases h
 ·split at h
  ·cases h
  ·intro q hq
   obtain ⟨s,s',he⟩:=aBc (fun s a r hr=>by
    unfold fA at hr
    repeat' split at hr
    all_goals cases hr
    all_goals rfl) t.parts none h q hq
   unfold fA at he
   split at he
   ·cases he
   ·rename_i hn;simpa using hn
theorem yL {p:Posted} (h:eE p.total=true):Fit p:=⟨iI h,fun q hq=>by have:=aD6 (aFr h q hq);omega⟩
theorem lW {l:List Posted} (h:iA l=true):l.length≤40∧∀ p∈l,p.day.right=true∧eE p.total=true:=by
 unfold iA at h
 split at h
 ·cases h
 ·refine ⟨by omega,fun p hp=>?_⟩
  obtain ⟨s,s',he⟩:=aBc (fun s a r hr=>by
   unfold fP at hr
   repeat' split at hr
   all_goals cases hr
   all_goals rfl) l _ h p hp
  unfold fP at he
  split at he
  ·cases he
  ·rename_i h1
   split at he
   ·cases he
   ·rename_i h2
    exact ⟨by simpa using h1,by simpa using h2⟩
def cE (s:State):Bool:=if fU s.table=false then false else if mI s.ser=false then false else if jP s=false then false else if iA s.posted=false then false else
 if lV s.ser s.posted=false then false else if (dY s.posted).2=0 then decide ((dY s.posted).1=s.book) else false
theorem qN:∀ (l:List Posted) (a:List Bal) (r:List Bal×Int),(∀ p∈l,p.total.parts.length≤12)→aS cO (fun b=>(b,0)) l a=r→r.1.length≤a.length+25*l.length
 | [],a,r,_,h=>by subst h;simp [aS]
 | p::l,a,r,hp,h=>by
  simp only [aS] at h
  split at h
  ·rename_i r' he
   subst h
   unfold cO at he
   repeat' split at he
   all_goals cases he
   all_goals simp
  ·rename_i a' he
   unfold cO at he
   split at he
   ·cases he
   ·rename_i h1
    split at he
    ·cases he
    ·cases he
     have h2:=(vK p.total).resolve_right h1
     have h3:=tJ a (eF p.total).1
     have h4:=hp p (List.mem_cons_self ..)
     have:=qN l _ r (fun q hq=>hp q (List.mem_cons_of_mem _ hq)) h
     simp only [List.length_cons]
     omega
def State.new:State:=⟨[],[],[],[],[],1⟩
def SV.new:SV:=⟨.nils,.nils,.nils,.nils,.nils,[]⟩
structure Bnd (s:State):Prop where
 bt:s.table.length≤100000
 bs:s.ser.length≤100000
 bp:s.posted.length≤100000
 bb:s.book.length≤100000
 be:s.sess.length≤100000
 bq:∀ p∈s.posted,p.total.parts.length≤100000
def aX3:List UInt8:=[111,119,101,100]
def vN (g:Int) (b:Bal):Int⊕Int:=.inr (if (b.acc == aX3)=true then b.amount else g)
def aHi (s:State) (name:List UInt8):Rep:=if (jX s.ser name).2=false then ⟨11,0,0⟩ else ⟨0,wr .i64 ((jX s.ser name).1.next - 1),aS vN id s.book 0⟩
def why (e:Int):Rep:=⟨e,0,0⟩
def bO (s:State) (name:List UInt8) (p:Posted):State×Rep:=
 if (dA s.ser name).2.2≠0 then (s,why (dA s.ser name).2.2) else if 40≤s.posted.length then (s,why 14) else
  if (eF p.total).2≠0 then (s,why (eF p.total).2) else if (cW s.book (eF p.total).1).2≠0 then (s,why (cW s.book (eF p.total).1).2) else
   ({ s with ser:=(dA s.ser name).1,book:=(cW s.book (eF p.total).1).1,posted:=s.posted++[{ p with ref:=⟨name,(dA s.ser name).2.1⟩ }] },⟨0,(dA s.ser name).2.1,p.total.gross⟩)
theorem aMt {P:List UInt8→Prop} {l:List Part} {cat:List UInt8} {bp n:Int} (h:∀ p∈l,P p.cat) (hc:P cat):∀ p∈(pQ l cat bp n).1,P p.cat:=by
 have hroom:∀ p∈dM l cat bp,P p.cat:=by
  unfold dM
  split
  ·intro p hp
   rcases List.mem_append.1 hp with hp | hp
   ·exact h p (List.mem_of_mem_take hp)
   ·rcases List.mem_cons.1 hp with rfl | hp
    ·exact hc
    ·exact h p (List.mem_of_mem_drop hp)
  ·exact h
 unfold pQ
 split
 ·intro p hp;cases hp
 ·rename_i q hq
  intro p hp
  rcases List.mem_or_eq_of_mem_set hp with hp | rfl
  ·exact hroom p hp
  ·exact hroom q (List.mem_of_getElem? hq)
theorem yM:∀ (l:List Part) (st:Int×Int×List Part) (r:Total×Int),aS fS kL l st=r→r.2=0→r.1.parts.map (·.cat)=st.2.2.map (·.cat)++l.map (·.cat)
 | [],st,r,h,h0=>by
  subst h
  simp only [aS,kL] at h0 ⊢
  split at h0
  ·rename_i hc;exact absurd h0 hc
  ·rename_i hc;rw [if_neg hc];simp
 | p::l,st,r,h,h0=>by
  simp only [aS] at h
  split at h
  ·rename_i r' he
   unfold fS at he
   split at he
   ·cases he;subst h;cases h0
   ·cases he
  ·rename_i st' he
   unfold fS at he
   split at he
   ·cases he
   ·cases he
    rw [yM l _ r h h0]
    simp
theorem aD7 {tab:List Rate} {d:Date}:∀ (l:List Line) (parts:List Part) (r:Total×Int),(∀ p∈parts,eJ p.cat=true)→aS (hZ tab d) eR l parts=r→r.2=0→(∀ p∈r.1.parts,eJ p.cat=true)∧r.1.parts.length≤parts.length+l.length
 | [],parts,r,hp,h,h0=>by
  subst h
  simp only [aS] at h0 ⊢
  have:=yM parts (0,0,[]) _ rfl h0
  simp only [List.map_nil,List.nil_append] at this
  refine ⟨fun p hpm=>?_,?_⟩
  ·have hm:p.cat∈parts.map (·.cat):=by rw [←this];exact List.mem_map_of_mem hpm
   obtain ⟨q,hq,e⟩:=List.mem_map.1 hm
   rw [←e];exact hp q hq
  ·have hl:=congrArg List.length this
   rw [List.length_map,List.length_map] at hl
   exact Nat.le_of_eq hl
 | x::l,parts,r,hp,h,h0=>by
  simp only [aS] at h
  split at h
  ·rename_i r' he
   unfold hZ at he
   split at he
   ·rename_i hc;cases he;subst h;exact absurd h0 hc
   ·split at he
    ·rename_i hc;cases he;subst h;exact absurd h0 hc
    ·cases he
  ·rename_i s' he
   unfold hZ at he
   split at he
   ·cases he
   ·rename_i hc
    split at he
    ·cases he
    ·cases he
     have hn:eJ x.cat=true:=by
      have hc0:(eZ tab d x).2.2=0:=by omega
      unfold eZ at hc0
      split at hc0
      ·cases hc0
      ·split at hc0
       ·cases hc0
       ·rename_i hh;simpa using hh
     have h1:=aHh parts x.cat (eZ tab d x).1 (eZ tab d x).2.1
     obtain ⟨h2,h3⟩:=aD7 l _ r (aMt (P:=fun c=>eJ c=true) hp hn) h h0
     refine ⟨h2,?_⟩
     simp only [List.length_cons]
     omega
theorem tK {tab:List Rate} {d:Date} {l:List Line} (h:(dH tab d l).2=0):(dH tab d l).1.parts.length≤12∧∀ q∈(dH tab d l).1.parts,q.cat.length≤1000000:=by
 unfold dH at h ⊢
 split at h
 ·cases h
 ·rename_i c1
  rw [if_neg c1]
  split at h
  ·cases h
  ·rename_i c2
   rw [if_neg c2]
   split at h
   ·cases h
   ·rename_i c3
    rw [if_neg c3]
    split at h
    ·cases h
    ·rename_i c4
     rw [if_neg c4]
     obtain ⟨h1,h2⟩:=aD7 l [] _ (fun _ h=>by cases h) rfl h
     refine ⟨by simp only [List.length_nil] at h2;omega,fun q hq=>by have:=aD6 (h1 q hq);omega⟩
theorem aBd:∀ (l a:List Part) (r:List Part×Int),aS dW (fun l=>(l,0)) l a=r→r.2=0→r.1.map (·.cat)=a.map (·.cat)++l.map (·.cat)
 | [],a,r,h,h0=>by subst h;simp [aS]
 | x::l,a,r,h,h0=>by
  simp only [aS] at h
  split at h
  ·rename_i r' he
   subst h
   unfold dW at he
   split at he
   ·rename_i hc;cases he;exact absurd h0 hc
   ·cases he
  ·rename_i a' he
   unfold dW at he
   split at he
   ·cases he
   ·cases he
    rw [aBd l _ r h h0]
    simp
theorem aJm (t:Total) (h:(bT t).2=0):(bT t).1.parts.map (·.cat)=t.parts.map (·.cat):=by
 unfold bT at h ⊢
 split at h
 ·rename_i c;exact absurd h c
 ·rename_i c
  rw [if_neg c]
  split at h
  ·rename_i c2;exact absurd h c2
  ·rename_i c2
   rw [if_neg c2]
   have:=aBd t.parts [] _ rfl (by omega)
   simpa using this
theorem aMu {p:Posted} (hf:Fit p) (h:(bT p.total).2=0):(bT p.total).1.parts.length≤12∧∀ q∈(bT p.total).1.parts,q.cat.length≤1000000:=by
 have:=aJm p.total h
 refine ⟨by have:=xA p.total;have:=hf.1;omega,fun q hq=>?_⟩
 have hm:q.cat∈p.total.parts.map (·.cat):=by rw [←this];exact List.mem_map_of_mem hq
 obtain ⟨q',hq',e⟩:=List.mem_map.1 hm
 rw [←e];exact hf.2 q' hq'
structure Cmd where
 kind:Int
 series:List UInt8
 limit:Int
 row:Rate
 day:Date
 lines:List Line
 of:Ref
 session:Int
def Cmd.cells (c:Cmd) (lv:V):List V:=[.int .i64 c.kind,.str c.series,.int .i64 c.limit,.str c.row.cat,.int .i64 c.row.day.y,.int .i64 c.row.day.m,.int .i64 c.row.day.d,.int .i64 c.row.bp,.int .i64 c.day.y,.int .i64 c.day.m,.int .i64 c.day.d,lv,.str c.of.ser,.int .i64 c.of.num,.int .i64 c.session]
def lX (s:State) (c:Cmd):State×Rep:=
 if (dH s.table c.day c.lines).2≠0 then (s,why (dH s.table c.day c.lines).2) else bO s c.series ⟨Ref.zero,c.day,(dH s.table c.day c.lines).1,Ref.zero,false⟩
def Posted.zero:Posted:=⟨Ref.zero,⟨0,0,0⟩,Total.zero,Ref.zero,false⟩
def fK (l:List Posted) (k:Nat):List Posted:=match l[k]? with
 | none=>l
 | some p=>l.set k { p with back:=true }
def fQ (s:State) (c:Cmd) (k:Nat) (p:Posted):State×Rep:=
 if p.back=true then (s,why 12) else if p.of=Ref.zero then
  (if c.day.right=false then (s,why 9) else if c.day.before p.day=true then (s,why 9) else if (bT p.total).2≠0 then (s,why (bT p.total).2) else
   if (bO s c.series ⟨Ref.zero,c.day,(bT p.total).1,c.of,false⟩).2.why=0 then
    ({ (bO s c.series ⟨Ref.zero,c.day,(bT p.total).1,c.of,false⟩).1 with posted:=fK (bO s c.series ⟨Ref.zero,c.day,(bT p.total).1,c.of,false⟩).1.posted k },(bO s c.series ⟨Ref.zero,c.day,(bT p.total).1,c.of,false⟩).2)
   else bO s c.series ⟨Ref.zero,c.day,(bT p.total).1,c.of,false⟩) else (s,why 12)
def eU (s:State) (c:Cmd):State×Rep:=
 if cK s.posted c.of<0 then (s,why 11) else fQ s c (cK s.posted c.of).toNat (s.posted.getD (cK s.posted c.of).toNat Posted.zero)
theorem aFs (s:State) (name:List UInt8) (p:Posted):∃ l,(bO s name p).1.posted=s.posted++l:=by
 unfold bO
 repeat' split
 all_goals first | exact ⟨[],(List.append_nil _).symm⟩ | exact ⟨_,rfl⟩
def gB (s:State) (r:List Ser×Int):State×Rep:=if r.2=0 then ({ s with ser:=r.1 },why r.2) else (s,why r.2)
def kA (s:State) (r:List Rate×Int):State×Rep:=if r.2=0 then ({ s with table:=r.1 },why r.2) else (s,why r.2)
def hY (s:State) (r:List Sess×Int):State×Rep:=if r.2=0 then ({ s with sess:=r.1 },why r.2) else (s,why r.2)
def sI (s:State) (c:Cmd):State×Rep:=
 if c.kind=1 then gB s (eT s.ser c.series c.limit) else if c.kind=2 then gB s (nV s.ser c.series) else if c.kind=3 then kA s (gP s.table c.row) else
  if c.kind=4 then lX s c else if c.kind=5 then eU s c else if c.kind=7 then hY s (fW s.sess c.session) else (s,aHi s c.series)
def gC (s:State):State×Rep:=
 if 8≤s.sess.length∨1099511627776≤s.next then (s,why 14) else if (mQ s.sess s.next).2≠0 then (s,why (mQ s.sess s.next).2) else
  ({ s with sess:=(mQ s.sess s.next).1,next:=wr .i64 (s.next+1) },⟨0,s.next,0⟩)
structure Call where
 session:Int
 seq:Int
 cmd:Cmd
def Call.cells (c:Call) (lv:V):List V:=[.int .i64 c.session,.int .i64 c.seq]++c.cmd.cells lv
def gS (r:State×Rep) (c:Call):State×Rep:=if (jE r.1.sess c.session c.seq r.2).2=0 then ({ r.1 with sess:=(jE r.1.sess c.session c.seq r.2).1 },r.2) else r
def fL (s:State) (c:Call):State×Rep:=
 if cE s=false then (s,why 1) else if c.cmd.kind<1∨8<c.cmd.kind then (s,why 17) else if c.cmd.kind=6 then gC s else
  if (cJ s.sess c.session c.seq).2.2≠0 then (s,why (cJ s.sess c.session c.seq).2.2) else if (cJ s.sess c.session c.seq).2.1=true then (s,(cJ s.sess c.session c.seq).1) else gS (sI s c.cmd) c
theorem nF {s:State} (h:cE s=true):iA s.posted=true:=by
 unfold cE at h
 repeat' split at h
 all_goals first | cases h | skip
 rename_i h4 _ _
 simpa using h4
structure Sml (s:State):Prop where
 st:s.table.length≤1000
 ss:s.ser.length≤1000
 sp:s.posted.length≤1000
 sb:s.book.length≤10000
 se:s.sess.length≤1000
 sq:∀ p∈s.posted,p.total.parts.length≤1000
theorem Sml.bnd {s:State} (h:Sml s):Bnd s:=⟨by have:=h.st;omega,by have:=h.ss;omega,by have:=h.sp;omega,by have:=h.sb;omega,by have:=h.se;omega,fun p hp=>by have:=h.sq p hp;omega⟩
theorem Sml.new:Sml State.new:=⟨by decide,by decide,by decide,by decide,by decide,fun p hp=>by cases hp⟩
theorem yN {s:State} (h:cE s=true):s.table.length≤24∧s.ser.length≤8∧s.sess.length≤8∧s.posted.length≤40∧s.book.length≤1000∧(∀ p∈s.posted,p.total.parts.length≤12)∧s.book=(dY s.posted).1:=by
 unfold cE at h
 split at h
 ·cases h
 ·rename_i h1
  split at h
  ·cases h
  ·rename_i h2
   split at h
   ·cases h
   ·rename_i h3
    split at h
    ·cases h
    ·rename_i h4
     split at h
     ·cases h
     ·split at h
      ·have hb:=of_decide_eq_true h
       have h4':iA s.posted=true:=by simpa using h4
       obtain ⟨p1,p2⟩:=lW h4'
       have hparts:∀ p∈s.posted,p.total.parts.length≤12:=fun p hp=>iI (p2 p hp).2
       have hl:=qN s.posted [] (dY s.posted) hparts rfl
       have hs:gA s.sess=true:=by
        unfold jP at h3
        by_cases c:gA s.sess=true
        ·exact c
        ·rw [if_neg c] at h3;exact absurd rfl h3
       refine ⟨tH (by simpa using h1),nU (by simpa using h2),lL hs,p1,?_,hparts,hb.symm⟩
       rw [←hb]
       simp only [List.length_nil] at hl
       omega
      ·cases h
theorem aBe {s:State} (h:Sml s) (h1:s.ser.length≤8) (h2:s.posted.length≤40) (h3:s.book.length≤1000) (name:List UInt8) (p:Posted) (hp:p.total.parts.length≤12):Sml (bO s name p).1:=by
 unfold bO
 split
 ·exact h
 ·split
  ·exact h
  ·split
   ·exact h
   ·rename_i c3
    split
    ·exact h
    ·refine ⟨h.st,?_,?_,?_,h.se,?_⟩
     ·show (dA s.ser name).1.length≤1000
      unfold dA
      repeat' split
      all_goals simp
      omega
     ·show (s.posted++_).length≤1000
      simp only [List.length_append,List.length_cons,List.length_nil];omega
     ·show (cW s.book (eF p.total).1).1.length≤10000
      have:=tJ s.book (eF p.total).1
      have:=(vK p.total).resolve_right c3
      omega
     ·intro q hq
      rcases List.mem_append.1 hq with hq | hq
      ·exact h.sq q hq
      ·rw [List.mem_singleton.1 hq]
       show p.total.parts.length≤1000
       omega
theorem aHj (l:List Posted) (k:Nat) (h:∀ p∈l,p.total.parts.length≤1000):(fK l k).length=l.length∧∀ p∈fK l k,p.total.parts.length≤1000:=by
 unfold fK
 split
 ·exact ⟨rfl,h⟩
 ·rename_i p hp
  refine ⟨List.length_set ..,fun q hq=>?_⟩
  rcases List.mem_or_eq_of_mem_set hq with hq | rfl
  ·exact h q hq
  ·exact h p (List.mem_of_getElem? hp)
theorem nX {α:Type} (l:List α) (i:Nat) (a:α):(eY l i a).length≤l.length+1:=by
 simp only [eY,List.length_append,List.length_cons,List.length_take,List.length_drop];omega
theorem aW9 {s:State} (h:Sml s) (hr:cE s=true) (c:Cmd):Sml (sI s c).1:=by
 obtain ⟨r1,r2,r3,r4,r5,r6,_⟩:=yN hr
 unfold sI
 split
 ·unfold gB
  split
  ·refine ⟨h.st,?_,h.sp,h.sb,h.se,h.sq⟩
   show (eT s.ser c.series c.limit).1.length≤1000
   unfold eT
   repeat' split
   all_goals first | (simp;done) | (refine Nat.le_trans (nX _ _ _) ?_;omega)
  ·exact h
 ·split
  ·unfold gB
   split
   ·refine ⟨h.st,?_,h.sp,h.sb,h.se,h.sq⟩
    show (nV s.ser c.series).1.length≤1000
    unfold nV
    repeat' split
    all_goals simp
    omega
   ·exact h
  ·split
   ·unfold kA
    split
    ·refine ⟨?_,h.ss,h.sp,h.sb,h.se,h.sq⟩
     show (gP s.table c.row).1.length≤1000
     unfold gP
     repeat' split
     all_goals first | (simp;done) | (refine Nat.le_trans (nX _ _ _) ?_;omega)
    ·exact h
   ·split
    ·unfold lX
     split
     ·exact h
     ·rename_i c1
      exact aBe h r2 r4 r5 _ _ (tK (by omega)).1
    ·split
     ·unfold eU
      split
      ·exact h
      ·rename_i c1
       unfold fQ
       split
       ·exact h
       ·split
        ·split
         ·exact h
         ·split
          ·exact h
          ·split
           ·exact h
           ·rename_i c4
            have hpar:(s.posted.getD (cK s.posted c.of).toNat Posted.zero).total.parts.length≤12:=by
             rw [List.getD_eq_getElem?_getD]
             cases hg:s.posted[(cK s.posted c.of).toNat]? with
             | none=>exact Nat.zero_le _
             | some p=>exact r6 p (List.mem_of_getElem? hg)
            have hbl:=xA (s.posted.getD (cK s.posted c.of).toNat Posted.zero).total
            have hi:=aBe h r2 r4 r5 c.series ⟨Ref.zero,c.day,(bT (s.posted.getD (cK s.posted c.of).toNat Posted.zero).total).1,c.of,false⟩ (Nat.le_trans hbl hpar)
            split
            ·obtain ⟨e1,e2⟩:=aHj _ (cK s.posted c.of).toNat hi.sq
             exact ⟨hi.st,hi.ss,by rw [e1];exact hi.sp,hi.sb,hi.se,e2⟩
            ·exact hi
        ·exact h
     ·split
      ·unfold hY
       split
       ·refine ⟨h.st,h.ss,h.sp,h.sb,?_,h.sq⟩
        show (fW s.sess c.session).1.length≤1000
        unfold fW
        repeat' split
        all_goals first | (simp;done) | (simp only [tG,List.length_append,List.length_take,List.length_drop];omega)
       ·exact h
      ·exact h
theorem aMv (l:List Sess) (id seq:Int) (r:Rep):(jE l id seq r).1.length≤l.length:=by
 unfold jE
 repeat' split
 all_goals simp
theorem aJn {s:State} (h:Sml s) (c:Call):Sml (fL s c).1:=by
 unfold fL
 split
 ·exact h
 ·rename_i hr
  have hr:cE s=true:=by simpa using hr
  split
  ·exact h
  ·split
   ·unfold gC
    split
    ·exact h
    ·split
     ·exact h
     ·obtain ⟨_,_,r3,_⟩:=yN hr
      refine ⟨h.st,h.ss,h.sp,h.sb,?_,h.sq⟩
      show (mQ s.sess s.next).1.length≤1000
      unfold mQ
      repeat' split
      all_goals first | (simp;done) | (refine Nat.le_trans (nX _ _ _) ?_;omega)
   ·split
    ·exact h
    ·split
     ·exact h
     ·have hd:=aW9 h hr c.cmd
      unfold gS
      split
      ·exact ⟨hd.st,hd.ss,hd.sp,hd.sb,by have:=aMv (sI s c.cmd).1.sess c.session c.seq (sI s c.cmd).2;have:=hd.se;show (jE _ _ _ _).1.length≤1000;omega,hd.sq⟩
      ·exact hd
def pB (c:Call):Call:={ c with cmd:={ c.cmd with lines:=c.cmd.lines.take 15 } }
def qO (l:List Call) (n:Nat):List Call:=(l.take n).map pB
def bE4:List V:=[.int .i64 0,.int .i64 0,.int .i64 0,.str [],.int .i64 0,.str [],.int .i64 0,.int .i64 0,.int .i64 0,.int .i64 0,.int .i64 0,.int .i64 0,.int .i64 0,.nils,.str [],.int .i64 0,.int .i64 0]
def qP (st:State×List Rep) (c:Call):State×List Rep:=((fL st.1 c).1,st.2++[(fL st.1 c).2])
def playM (s:State) (l:List Call):State×List Rep:=l.foldl qP (s,[])
def aKx (st:State×List Rep) (c:Call):(State×List Rep)⊕(State×List Rep):=.inr (qP st c)
theorem aD8:∀ (l:List Call) (st:State×List Rep),aS aKx id l st=l.foldl qP st
 | [],st=>rfl
 | c::l,st=>by simp only [aS,aKx,List.foldl_cons];exact aD8 l _
theorem aP6 (l:List Call) (n:Nat):(qO l n).length≤n:=by simp only [qO,List.length_map,List.length_take];omega
end Go.Proofs.YtoaibmbldmckaaaGreat
end
section
namespace Go.AM
def qQ {α:Type} (a:α):Option (List α)→Option (List α)
 | some l=>some (a::l)
 | none=>none
def vO:List V→Nat→Option (List V)
 | _,0=>some []
 | [],_+1=>none
 | a::l,n+1=>qQ a (vO l n)
def qR:List V→Nat→List V→Option (List V)
 | cs,0,[]=>some cs
 | [],0,_::_=>none
 | _::cs,0,x::xs=>qQ x (qR cs 0 xs)
 | [],_+1,_=>none
 | c::cs,j+1,xs=>qQ c (qR cs j xs)
def nY:List V→Nat→Bool
 | [],0=>true
 | _::l,n+1=>nY l n
 | _,_=>false
def aFt {α:Type}:List α→Nat→α→Option (List α)
 | [],_,_=>none
 | _::l,0,x=>some (x::l)
 | a::l,i+1,x=>qQ a (aFt l i x)
theorem aHk:∀ (l:List V) (n:Nat),vO l n=if n≤l.length then some (l.take n) else none
 | l,0=>by cases l<;>simp [vO]
 | [],n+1=>by simp [vO]
 | a::l,n+1=>by
  simp only [vO,aHk l n,List.length_cons,Nat.add_le_add_iff_right,List.take_succ_cons]
  split<;>rfl
theorem vP:∀ (cs:List V) (j:Nat) (xs:List V),qR cs j xs=if j+xs.length≤cs.length then some (splice cs j xs) else none
 | cs,0,[]=>by cases cs<;>simp [qR,splice]
 | [],0,x::xs=>by simp [qR]
 | c::cs,0,x::xs=>by
  have h:=vP cs 0 xs
  simp only [qR,h,List.length_cons,splice,List.take_zero,List.nil_append,Nat.zero_add]
  by_cases c1:xs.length≤cs.length
  ·rw [if_pos c1,if_pos (by omega)];simp [qQ]
  ·rw [if_neg c1,if_neg (by omega)];rfl
 | [],j+1,xs=>by simp [qR]
 | c::cs,j+1,xs=>by
  have h:=vP cs j xs
  simp only [qR,h,List.length_cons,splice]
  by_cases c1:j+xs.length≤cs.length
  ·rw [if_pos c1,if_pos (by omega)]
   simp only [qQ,List.take_succ_cons,List.cons_append,show j+1+xs.length=(j+xs.length)+1 by omega,List.drop_succ_cons]
  ·rw [if_neg c1,if_neg (by omega)];rfl
theorem vQ:∀ (l:List V) (n:Nat),nY l n=decide (l.length=n)
 | [],0=>rfl
 | [],n+1=>by simp [nY]
 | a::l,0=>by simp [nY]
 | a::l,n+1=>by simp [nY,vQ l n]
theorem aKy {α:Type}:∀ (l:List α) (i:Nat) (x:α),aFt l i x=if i<l.length then some (l.set i x) else none
 | [],i,x=>by simp [aFt]
 | a::l,0,x=>by simp [aFt]
 | a::l,i+1,x=>by
  simp only [aFt,aKy l i x,List.length_cons,Nat.add_lt_add_iff_right,List.set_cons_succ]
  split<;>rfl
theorem pt2 (n:Nat) (cs:List V) (j:Nat):gI (some (n+1)) cs j=(match vO (cs.drop j) (n+1) with
  | some l=>.ok (.agg l)
  | none=>.error "part"):=by
 simp only [gI,aHk,List.length_drop]
 by_cases c:j+(n+1)≤cs.length
 ·rw [if_pos c,if_pos (by omega)]
 ·rw [if_neg c,if_neg (by omega)]
theorem mD (n a ver i j:Nat) (x:V) (S:St):aV n (.ptr a ver i j) x S=(match aI S a ver with
  | .error e=>.error e
  | .ok (es,elems)=>match elems[i]? with
   | some cs=>(match nY x.cells n&&aN x.cells with
    | true=>(match qR cs j x.cells with
     | some cs'=>.ok ⟨S.next,S.heap.put a (.row ver es (elems.set i cs'))⟩
     | none=>.error "store: the size")
    | false=>.error "store: the size")
   | none=>.error "store"):=by
 simp only [aV,vP,vQ]
 cases aI S a ver with
 | error e=>rfl
 | ok r=>
  obtain ⟨es,elems⟩:=r
  simp only
  cases elems[i]? with
  | none=>rfl
  | some cs=>
   simp only
   by_cases c1:x.cells.length=n
   ·cases c2:aN x.cells
    ·simp [c1]
    ·by_cases c3:j+x.cells.length≤cs.length
     ·rw [if_pos ⟨c1,rfl,c3⟩];simp [c1];simp [←c1,c3]
     ·rw [if_neg (fun h=>c3 h.2.2)];simp [c1];simp [←c1,c3]
   ·rw [if_neg (fun h=>c1 h.1)];simp [c1]
theorem bw0 (z:List V) (pl:List (Nat×Nat)):bM z pl []=.ok (.agg z):=rfl
theorem bw1 (z:List V) (pl:List (Nat×Nat)) (i:Nat) (v:V) (rest:List (Nat×V)):bM z pl ((i,v)::rest)=(match pl[i]? with
  | none=>.error "fill"
  | some (off,size)=>(match nY v.cells size&&aN v.cells with
   | true=>(match qR z off v.cells with
    | some z'=>bM z' pl rest
    | none=>.error "fill")
   | false=>.error "fill")):=by
 simp only [bM,pT]
 cases pl[i]? with
 | none=>rfl
 | some p=>
  obtain ⟨off,size⟩:=p
  simp only [vP,vQ,cond_eq_ite]
  by_cases c1:v.cells.length=size
  ·cases c2:aN v.cells
   ·simp [c1]
   ·by_cases c3:off+v.cells.length≤z.length
    ·have h1:Nat.beq v.cells.length size=true:=by simpa using c1
     have h2:Nat.ble (off+v.cells.length) z.length=true:=Nat.ble_eq_true_of_le c3
     simp [h1,h2,c1]
     simp [←c1,c3]
    ·have h2:Nat.ble (off+v.cells.length) z.length=false:=by
      cases h:Nat.ble (off+v.cells.length) z.length with
      | false=>rfl
      | true=>exact absurd (Nat.le_of_ble_eq_true h) c3
     simp [h2,c1]
     simp [←c1,c3]
  ·have h1:Nat.beq v.cells.length size=false:=by
    cases h:Nat.beq v.cells.length size with
    | false=>rfl
    | true=>exact absurd (Nat.eq_of_beq_eq_true h) c1
   simp [h1,c1]
theorem lv1 (es:Nat) (elems:List (List V)) (i:Nat) (v:V) (rest:List (Nat×V)):rV es elems ((i,v)::rest)=(match nY v.cells es&&aN v.cells with
  | true=>(match aFt elems i v.cells with
   | some e=>rV es e rest
   | none=>.error "buildSlice")
  | false=>.error "buildSlice"):=by
 simp only [rV,aKy,vQ,cond_eq_ite]
 by_cases c1:v.cells.length=es
 ·have h1:Nat.beq v.cells.length es=true:=by simpa using c1
  cases c2:aN v.cells
  ·simp [c1]
  ·by_cases c3:i<elems.length
   ·have h2:Nat.blt i elems.length=true:=by simpa using c3
    simp [h1,h2,c1,c3]
   ·have h2:Nat.blt i elems.length=false:=by
     cases h:Nat.blt i elems.length with
     | false=>rfl
     | true=>exact absurd (by simpa using h) c3
    simp [h2,c1,c3]
 ·have h1:Nat.beq v.cells.length es=false:=by
   cases h:Nat.beq v.cells.length es with
   | false=>rfl
   | true=>exact absurd (Nat.eq_of_beq_eq_true h) c1
  simp [h1,c1]
theorem aX4:(∀ {α:Type} (a:α) (l:List α),qQ a (some l)=some (a::l))∧(∀ l:List V,vO l 0=some [])∧(∀ (a:V) (l:List V) (n:Nat),vO (a::l) (n+1)=qQ a (vO l n)) ∧
  (∀ cs:List V,qR cs 0 []=some cs)∧(∀ (c x:V) (cs xs:List V),qR (c::cs) 0 (x::xs)=qQ x (qR cs 0 xs))∧(∀ (c:V) (cs:List V) (j:Nat) (xs:List V),qR (c::cs) (j+1) xs=qQ c (qR cs j xs)) ∧
  nY [] 0=true∧(∀ (a:V) (l:List V) (n:Nat),nY (a::l) (n+1)=nY l n)∧(∀ {α:Type} (a:α) (l:List α) (x:α),aFt (a::l) 0 x=some (x::l))∧(∀ {α:Type} (a:α) (l:List α) (i:Nat) (x:α),aFt (a::l) (i+1) x=qQ a (aFt l i x)) ∧
  type_of% pt2∧(∀ (n a j:Nat) (x:V) (S:St),type_of% (mD n a 0 0 j x S))∧type_of% bw0∧type_of% bw1∧type_of% lv1∧(∀ (es:Nat) (l:List (List V)),rV es l []=.ok l):=
 ⟨fun _ _=>rfl,fun l=>by cases l<;>rfl,fun _ _ _=>rfl,fun cs=>by cases cs<;>rfl,fun _ _ _ _=>rfl,fun _ _ _ _=>by simp only [qR],rfl,fun _ _ _=>rfl,fun _ _ _=>rfl,fun _ _ _ _=>rfl,pt2,fun n a j x S=>mD n a 0 0 j x S,bw0,bw1,lv1,fun _ _=>rfl⟩
section
section
variable {P:Program}
theorem aWa (b:Bool) (x y:Prop):aE (.bool b) x y=if b=true then x else y:=by cases b<;>rfl
theorem ldP (k:Option Nat) (a ver i j:Nat) (S:St):bB k (.ptr a ver i j) S=(match aI S a ver with
  | .error e=>.error e
  | .ok (_,elems)=>match elems[i]? with
   | some cs=>gI k cs j
   | none=>.error "load"):=rfl
theorem ptN (cs:List V) (j:Nat):gI none cs j=(match cs[j]? with
  | some v=>.ok v
  | none=>.error "part"):=rfl
theorem grS (n:Nat) (h:Tr Blk) (a ver es:Nat) (el:List (List V)):aI ⟨n,h.put a (.row ver es el)⟩ a ver=.ok (es,el):=aR ..
theorem iL {c a:Nat} (hc:c≠a) (n:Nat) (h:Tr Blk) (ver:Nat) (b:Blk):aI ⟨n,h.put a b⟩ c ver=aI ⟨n,h⟩ c ver:=cV n n h a c ver b hc
theorem nb0 (S:St) (b:Blk):aJ none S b=.ok (S.next,⟨S.next+1,S.heap.put S.next b⟩):=fG S b
theorem nb1 (k:Nat) (S:St) (b:Blk):aJ (some k) S b=.ok (k,⟨S.next,S.heap.put k b⟩):=lG k S b
theorem stP (n a ver i j:Nat) (x:V) (S:St):aV n (.ptr a ver i j) x S=(match aI S a ver with
  | .error e=>.error e
  | .ok (es,elems)=>match elems[i]? with
   | some cs=>if x.cells.length=n∧aN x.cells=true∧j+x.cells.length≤cs.length then .ok ⟨S.next,S.heap.put a (.row ver es (elems.set i (splice cs j x.cells)))⟩ else .error "store: the size"
   | none=>.error "store"):=rfl
theorem ixI {α:Type} {l:List α} {enc:α→List V} {i:Nat} {a:α} {n:Nat} (hi:l[i]?=some a) (hn:(enc a).length=n) (k:IntKind):cP n (.imm (l.map enc)) (.int k (i:Int))=.ok (.iptr (enc a) 0):=by
 have hil:=(List.getElem?_eq_some_iff.1 hi).1
 have hx:(l.map enc)[i]?=some (enc a):=by rw [List.getElem?_map,hi];rfl
 simp only [cP,List.length_map,kJ hil,hx]
 simp only [hn,if_true]
theorem okI {α:Type} (a b:α):((Except.ok a:R α)=.ok b)=(a=b):=by simp
end
theorem kit:(∀ {α:Type} (a:α) (K:α→Prop),wR (.ok a) K=K a)∧(∀ {α:Type} (a:α) (K:α→Prop),wO (some a) K=K a)∧(∀ x:Prop,bR true x=x)∧(∀ (b:Bool) (x y:Prop),aE (.bool b) x y=if b=true then x else y) ∧
  (∀ (v:V) (r:List V) (K:V→List V→Prop),eB (v::r) K=K v r)∧(∀ (vs:List V) (i:Nat) (K:V→Prop),bG (.tup vs) i K=wO vs[i]? K)∧(∀ (a b c d:Nat) (x:Prop),gD (.ptr a b c d) x=x)∧(∀ (a:List V) (b:Nat) (x:Prop),gD (.iptr a b) x=x) ∧
  (∀ b:Bool,jA .not (.bool b)=.ok (.bool !b))∧(∀ v:V,dJ v v=true):=
 ⟨fun _ _=>rfl,fun _ _=>rfl,fun _=>rfl,aWa,fun _ _ _=>rfl,fun _ _ _=>rfl,fun _ _ _ _ _=>rfl,fun _ _ _=>rfl,fun _=>rfl,wV⟩
theorem bE6 (P:Program):(∀ (t:TypeId) (k:IntKind) (a b:Int),aH P .add t (.int k a) (.int k b)=.ok (.int k (wr k (a+b))))∧(∀ (t:TypeId) (k:IntKind) (a b:Int),aH P .sub t (.int k a) (.int k b)=.ok (.int k (wr k (a - b)))) ∧
  (∀ (t:TypeId) (k:IntKind) (a b:Int),aH P .mul t (.int k a) (.int k b)=.ok (.int k (wr k (a*b))))∧(∀ (t:TypeId) (k:IntKind) (a b:Int),aH P .lss t (.int k a) (.int k b)=.ok (.bool (decide (a<b)))) ∧
  (∀ (t:TypeId) (k:IntKind) (a b:Int),aH P .leq t (.int k a) (.int k b)=.ok (.bool (decide (a≤b))))∧(∀ (t:TypeId) (k:IntKind) (a b:Int),aH P .gtr t (.int k a) (.int k b)=.ok (.bool (decide (b<a)))) ∧
  (∀ (t:TypeId) (k:IntKind) (a b:Int),aH P .geq t (.int k a) (.int k b)=.ok (.bool (decide (b≤a))))∧(∀ (t:TypeId) (k:IntKind) (a b:Int),aH P .eql t (.int k a) (.int k b)=.ok (.bool (decide (a=b)))) ∧
  (∀ (t:TypeId) (k:IntKind) (a b:Int),aH P .neq t (.int k a) (.int k b)=.ok (.bool (!decide (a=b)))) ∧
  (∀ (t:TypeId) (j k:IntKind) (a b:Int),aL P t (.int j a) (.int k b)=true)∧(∀ (t:TypeId) (x y:List UInt8),aL P t (.str x) (.str y)=true)∧(∀ (t:TypeId) (x y:Bool),aL P t (.bool x) (.bool y)=true) ∧
  (∀ (t:TypeId) (x y:List UInt8),aH P .eql t (.str x) (.str y)=.ok (.bool (x == y)))∧(∀ (t:TypeId) (x y:List UInt8),aH P .neq t (.str x) (.str y)=.ok (.bool (!(x == y)))) ∧
  (∀ (t:TypeId) (x y:List UInt8),aH P .lss t (.str x) (.str y)=.ok (.bool (fF x y)))∧(∀ (t:TypeId) (x y:List UInt8),aH P .geq t (.str x) (.str y)=.ok (.bool (!fF x y))) ∧
  (∀ (t:TypeId) (k:IntKind) (a b:Int),b≠0→aH P .quo t (.int k a) (.int k b)=.ok (.int k (wr k (a.tdiv b))))∧(∀ (t:TypeId) (k:IntKind) (a b:Int),b≠0→aH P .rem t (.int k a) (.int k b)=.ok (.int k (a.tmod b))):=
 ⟨aQv P,aQw P,aQx P,aR0 P,aR1 P,aR2 P,aR3 P,aR4 P,aR5 P,fun _ _ _ _ _=>rfl,fun _ _ _=>rfl,fun _ _ _=>rfl,aR6 P,aR7 P,aR8 P,aR9 P,fun _ _ _ _ h=>aQy P _ _ _ _ h,fun _ _ _ _ h=>aQz P _ _ _ _ h⟩
theorem bE7 : (∀ (k : Option Nat) (a j : Nat) (S : St), bB k (.ptr a 0 0 j) S = (match aI S a 0 with
      | .error e => .error e
      | .ok (_, elems) => match elems[0]? with
        | some cs => gI k cs j
        | none => .error "load")) ∧ (∀ (k : Option Nat) (cs : List V) (j : Nat) (S : St), bB k (.iptr cs j) S = gI k cs j) ∧
    (∀ (cs : List V) (j : Nat), gI none cs j = (match cs[j]? with
      | some v => .ok v
      | none => .error "part")) ∧
    (∀ off a ver i j : Nat, advW off (.ptr a ver i j) = .ok (.ptr a ver i (j + off))) ∧ (∀ (off : Nat) (cs : List V) (j : Nat), advW off (.iptr cs j) = .ok (.iptr cs (j + off))) ∧
    (∀ (n : Nat) (h : Tr Blk) (a ver es : Nat) (el : List (List V)), aI ⟨n, h.put a (.row ver es el)⟩ a ver = .ok (es, el)) ∧ (∀ (S : St) (b : Blk), aJ none S b = .ok (S.next, ⟨S.next + 1, S.heap.put S.next b⟩)) ∧
    (∀ (k : Nat) (S : St) (b : Blk), aJ (some k) S b = .ok (k, ⟨S.next, S.heap.put k b⟩)) ∧ (∀ cs : List V, (V.agg cs).cells = cs) ∧ (∀ b : Bool, (V.bool b).cells = [.bool b]) ∧ (∀ (k : IntKind) (n : Int), (V.int k n).cells = [.int k n]) ∧
    (∀ s : List UInt8, (V.str s).cells = [.str s]) ∧ (∀ es : List (List V), (V.imm es).cells = [.imm es]) ∧ V.nils.cells = [.nils] ∧ (∀ a b c d : Nat, (V.ptr a b c d).cells = [.ptr a b c d]) ∧ (∀ a b c d e : Nat, (V.sl a b c d e).cells = [.sl a b c d e]) ∧
    (∀ (f : FuncId) (a b : List V), (V.func f a b).cells = [.func f a b]) ∧ aN [] = true ∧ (∀ (v : V) (l : List V), aN (v :: l) = (v.one && aN l)) ∧ (∀ b : Bool, (V.bool b).one = true) ∧ (∀ (k : IntKind) (n : Int), (V.int k n).one = true) ∧ (∀ s : List UInt8, (V.str s).one = true) ∧
    (∀ es : List (List V), (V.imm es).one = true) ∧ V.nils.one = true ∧ (∀ a b c d : Nat, (V.ptr a b c d).one = true) ∧ (∀ a b c d e : Nat, (V.sl a b c d e).one = true) ∧ (∀ (f : FuncId) (a b : List V), (V.func f a b).one = true) ∧
    (∀ es : List (List V), lenW (.imm es) = .ok (.int .i64 es.length)) ∧ lenW .nils = .ok (.int .i64 0) ∧ (∀ a b c d e : Nat, lenW (.sl a b c d e) = .ok (.int .i64 e)) ∧
    (∀ (S : St) (b : Bool), bZ S (.bool b) = .ok (.bool b)) ∧ (∀ (S : St) (k : IntKind) (n : Int), bZ S (.int k n) = .ok (.int k n)) ∧ (∀ (S : St) (s : List UInt8), bZ S (.str s) = .ok (.str s)) ∧ (∀ (S : St) (es : List (List V)), bZ S (.imm es) = .ok (.imm es)) ∧
    (∀ {α : Type} (a b : α), ((Except.ok a : R α) = .ok b) = (a = b)) :=
  ⟨fun _ _ _ _ => rfl, fun _ _ _ _ => rfl, fun _ _ => rfl, fun _ _ _ _ _ => rfl, fun _ _ _ => rfl, grS, nb0, nb1, fun _ => rfl, fun _ => rfl, fun _ _ => rfl, fun _ => rfl, fun _ => rfl, rfl, fun _ _ _ _ => rfl, fun _ _ _ _ _ => rfl, fun _ _ _ => rfl, rfl, fun _ _ => rfl,
    fun _ => rfl, fun _ _ => rfl, fun _ => rfl, fun _ => rfl, rfl, fun _ _ _ _ => rfl, fun _ _ _ _ _ => rfl, fun _ _ _ => rfl, fun _ => rfl, rfl, fun _ _ _ _ _ => rfl, fun _ _ => rfl, fun _ _ _ => rfl, fun _ _ => rfl, fun _ _ => rfl, okI⟩
end
end Go.AM
end
section
namespace Go.Proofs.YtoaibmbldmckaaaGreat
open Go.AM Tryz
theorem fx : (∀ (s x : V) (fr : Option Nat) (S : St), aW prog 102 s x fr S = dG 23 224 s x fr S) ∧ (∀ (s x : V) (fr : Option Nat) (S : St), aW prog 22 s x fr S = dG 1 1 s x fr S) ∧ (∀ (s x : V) (fr : Option Nat) (S : St), aW prog 24 s x fr S = dG 5 48 s x fr S) ∧ (∀ (s x : V) (fr : Option Nat) (S : St), aW prog 25 s x fr S = dG 4 40 s x fr S) ∧ (∀ (s x : V) (fr : Option Nat) (S : St), aW prog 26 s x fr S = dG 12 128 s x fr S) ∧ (∀ (s x : V) (fr : Option Nat) (S : St), aW prog 27 s x fr S = dG 2 24 s x fr S) ∧ (∀ (s x : V) (fr : Option Nat) (S : St), aW prog 28 s x fr S = dG 5 40 s x fr S) ∧ (∀ (s x : V) (fr : Option Nat) (S : St), aW prog 44 s x fr S = dG 17 176 s x fr S) ∧ (∀ (s x : V) (fr : Option Nat) (S : St), aW prog 55 s x fr S = dG 4 48 s x fr S) ∧ (∀ (s x : V) (fr : Option Nat) (S : St), aW prog 62 s x fr S = dG 3 24 s x fr S) ∧ (∀ (s x : V) (fr : Option Nat) (S : St), aW prog 71 s x fr S = dG 4 40 s x fr S) ∧ (∀ (s x : V) (fr : Option Nat) (S : St), aW prog 80 s x fr S = dG 4 40 s x fr S) ∧ (∀ (s x : V) (fr : Option Nat) (S : St), aW prog 96 s x fr S = dG 1 8 s x fr S) ∧ (∀ (s x : V) (fr : Option Nat) (S : St), aW prog 97 s x fr S = dG 23 224 s x fr S) ∧ (∀ (parts : List (Nat × V)), aP prog 126 parts = bM [.str [],.int .i64 0,.int .i64 0,.bool false] [(0, 1), (1, 1), (2, 1), (3, 1)] parts) ∧ (∀ (parts : List (Nat × V)), aP prog 132 parts = bM [.int .i64 0,.int .i64 0,.int .i64 0,.int .i64 0,.int .i64 0] [(0, 1), (1, 1), (2, 3)] parts) ∧ (∀ (parts : List (Nat × V)), aP prog 142 parts = bM [.nils,.int .i64 0,.int .i64 0] [(0, 1), (1, 1), (2, 1)] parts) ∧ (∀ (parts : List (Nat × V)), aP prog 145 parts = bM [.str [],.int .i64 0,.int .i64 0,.int .i64 0] [(0, 1), (1, 1), (2, 1), (3, 1)] parts) ∧ (∀ (parts : List (Nat × V)), aP prog 160 parts = bM [.nils] [(0, 1)] parts) ∧ (∀ (parts : List (Nat × V)), aP prog 201 parts = bM [.str [],.str [],.int .i64 0,.int .i64 0] [(0, 1), (1, 1), (2, 1), (3, 1)] parts) ∧ (∀ (parts : List (Nat × V)), aP prog 207 parts = bM [.int .i64 0,.int .i64 0,.int .i64 0,.str [],.int .i64 0,.str [],.int .i64 0,.int .i64 0,.int .i64 0,.int .i64 0,.int .i64 0,.int .i64 0,.int .i64 0,.nils,.str [],.int .i64 0,.int .i64 0,.int .i64 0,.int .i64 0,.int .i64 0,.int .i64 0,.int .i64 0,.int .i64 0] [(0, 17), (17, 1), (18, 1), (19, 1), (20, 3)] parts) ∧ (∀ (parts : List (Nat × V)), aP prog 212 parts = bM [.nili] [(0, 1)] parts) ∧ (∀ (parts : List (Nat × V)), aP prog 225 parts = bM [.nils,.int .i64 0,.int .i64 0] [(0, 1), (1, 1), (2, 1)] parts) ∧ (∀ (parts : List (Nat × V)), aP prog 287 parts = bM [.nils,.bool false] [(0, 1), (1, 1)] parts) ∧ (∀ (parts : List (Nat × V)), aP prog 30 parts = bM [.nils,.nils,.nils,.nils,.nils,.int .i64 0] [(0, 1), (1, 1), (2, 1), (3, 1), (4, 1), (5, 1)] parts) ∧ (∀ (parts : List (Nat × V)), aP prog 346 parts = bM [.int .i64 0,.int .u64 0] [(0, 1), (1, 1)] parts) ∧ (∀ (parts : List (Nat × V)), aP prog 48 parts = bM [.int .i64 0,.int .i64 0,.int .i64 0] [(0, 1), (1, 1), (2, 1)] parts) ∧ (∀ (parts : List (Nat × V)), aP prog 52 parts = bM [.int .i64 0,.int .i64 0,.int .i64 0] [(0, 1), (1, 1), (2, 1)] parts) ∧ (∀ (parts : List (Nat × V)), aP prog 54 parts = bM [.str [],.int .i64 0,.int .i64 0,.int .i64 0,.int .i64 0] [(0, 1), (1, 3), (4, 1)] parts) ∧ (∀ (parts : List (Nat × V)), aP prog 57 parts = bM [.str [],.int .i64 0] [(0, 1), (1, 1)] parts) ∧ (∀ (parts : List (Nat × V)), aP prog 59 parts = bM [.int .i64 0,.str [],.int .i64 0,.str [],.int .i64 0,.int .i64 0,.int .i64 0,.int .i64 0,.int .i64 0,.int .i64 0,.int .i64 0,.nils,.str [],.int .i64 0,.int .i64 0] [(0, 1), (1, 1), (2, 1), (3, 5), (8, 3), (11, 1), (12, 2), (14, 1)] parts) ∧ (∀ (parts : List (Nat × V)), aP prog 61 parts = bM [.int .i64 0,.int .i64 0,.int .i64 0,.str [],.int .i64 0,.str [],.int .i64 0,.int .i64 0,.int .i64 0,.int .i64 0,.int .i64 0,.int .i64 0,.int .i64 0,.nils,.str [],.int .i64 0,.int .i64 0] [(0, 1), (1, 1), (2, 15)] parts) ∧ (∀ (parts : List (Nat × V)), aP prog 76 parts = bM [.str [],.int .i64 0,.int .i64 0,.int .i64 0] [(0, 1), (1, 1), (2, 1), (3, 1)] parts) ∧ (∀ (parts : List (Nat × V)), aP prog 77 parts = bM [.str [],.int .i64 0,.int .i64 0,.int .i64 0] [(0, 1), (1, 1), (2, 1), (3, 1)] parts) ∧ (∀ (parts : List (Nat × V)), aP prog 82 parts = bM [.int .i64 0,.int .i64 0,.int .i64 0,.nils] [(0, 1), (1, 1), (2, 1), (3, 1)] parts) ∧ (∀ (parts : List (Nat × V)), aP prog 84 parts = bM [.str [],.int .i64 0,.int .i64 0,.int .i64 0,.int .i64 0,.int .i64 0,.int .i64 0,.int .i64 0,.nils,.str [],.int .i64 0,.bool false] [(0, 2), (2, 3), (5, 4), (9, 2), (11, 1)] parts) ∧ (∀ (parts : List (Nat × V)), aP prog 90 parts = bM [.str [],.int .i64 0] [(0, 1), (1, 1)] parts) ∧ (∀ (parts : List (Nat × V)), aP prog 99 parts = bM [.int .i64 0,.int .i64 0,.int .i64 0,.str [],.int .i64 0,.str [],.int .i64 0,.int .i64 0,.int .i64 0,.int .i64 0,.int .i64 0,.int .i64 0,.int .i64 0,.nils,.str [],.int .i64 0,.int .i64 0,.int .i64 0,.int .i64 0,.int .i64 0,.int .i64 0,.int .i64 0,.int .i64 0] [(0, 17), (17, 1), (18, 1), (19, 1), (20, 3)] parts) ∧ (∀ (len : Nat) (parts : List (Nat × V)) (fr : Option Nat) (S : St), aK prog 102 len parts fr S = aQ 23 [.int .i64 0,.int .i64 0,.int .i64 0,.str [],.int .i64 0,.str [],.int .i64 0,.int .i64 0,.int .i64 0,.int .i64 0,.int .i64 0,.int .i64 0,.int .i64 0,.nils,.str [],.int .i64 0,.int .i64 0,.int .i64 0,.int .i64 0,.int .i64 0,.int .i64 0,.int .i64 0,.int .i64 0] len parts fr S) ∧ (∀ (len : Nat) (parts : List (Nat × V)) (fr : Option Nat) (S : St), aK prog 22 len parts fr S = aQ 1 [.int .u8 0] len parts fr S) ∧ (∀ (len : Nat) (parts : List (Nat × V)) (fr : Option Nat) (S : St), aK prog 24 len parts fr S = aQ 5 [.str [],.int .i64 0,.int .i64 0,.int .i64 0,.int .i64 0] len parts fr S) ∧ (∀ (len : Nat) (parts : List (Nat × V)) (fr : Option Nat) (S : St), aK prog 25 len parts fr S = aQ 4 [.str [],.int .i64 0,.int .i64 0,.bool false] len parts fr S) ∧ (∀ (len : Nat) (parts : List (Nat × V)) (fr : Option Nat) (S : St), aK prog 26 len parts fr S = aQ 12 [.str [],.int .i64 0,.int .i64 0,.int .i64 0,.int .i64 0,.int .i64 0,.int .i64 0,.int .i64 0,.nils,.str [],.int .i64 0,.bool false] len parts fr S) ∧ (∀ (len : Nat) (parts : List (Nat × V)) (fr : Option Nat) (S : St), aK prog 27 len parts fr S = aQ 2 [.str [],.int .i64 0] len parts fr S) ∧ (∀ (len : Nat) (parts : List (Nat × V)) (fr : Option Nat) (S : St), aK prog 28 len parts fr S = aQ 5 [.int .i64 0,.int .i64 0,.int .i64 0,.int .i64 0,.int .i64 0] len parts fr S) ∧ (∀ (len : Nat) (parts : List (Nat × V)) (fr : Option Nat) (S : St), aK prog 361 len parts fr S = aQ 1 [.nilp] len parts fr S) ∧ (∀ (len : Nat) (parts : List (Nat × V)) (fr : Option Nat) (S : St), aK prog 364 len parts fr S = aQ 1 [.str []] len parts fr S) ∧ (∀ (len : Nat) (parts : List (Nat × V)) (fr : Option Nat) (S : St), aK prog 44 len parts fr S = aQ 17 [.int .i64 0,.int .i64 0,.int .i64 0,.str [],.int .i64 0,.str [],.int .i64 0,.int .i64 0,.int .i64 0,.int .i64 0,.int .i64 0,.int .i64 0,.int .i64 0,.nils,.str [],.int .i64 0,.int .i64 0] len parts fr S) ∧ (∀ (len : Nat) (parts : List (Nat × V)) (fr : Option Nat) (S : St), aK prog 55 len parts fr S = aQ 4 [.str [],.str [],.int .i64 0,.int .i64 0] len parts fr S) ∧ (∀ (len : Nat) (parts : List (Nat × V)) (fr : Option Nat) (S : St), aK prog 62 len parts fr S = aQ 3 [.int .i64 0,.int .i64 0,.int .i64 0] len parts fr S) ∧ (∀ (len : Nat) (parts : List (Nat × V)) (fr : Option Nat) (S : St), aK prog 68 len parts fr S = aQ 4 [.str [],.int .i64 0,.int .i64 0,.int .i64 0] len parts fr S) ∧ (∀ (len : Nat) (parts : List (Nat × V)) (fr : Option Nat) (S : St), aK prog 71 len parts fr S = aQ 4 [.str [],.int .i64 0,.int .i64 0,.int .i64 0] len parts fr S) ∧ (∀ (len : Nat) (parts : List (Nat × V)) (fr : Option Nat) (S : St), aK prog 80 len parts fr S = aQ 4 [.str [],.int .i64 0,.int .i64 0,.int .i64 0] len parts fr S) ∧ (∀ (len : Nat) (parts : List (Nat × V)) (fr : Option Nat) (S : St), aK prog 96 len parts fr S = aQ 1 [.int .i64 0] len parts fr S) ∧ (∀ (len : Nat) (parts : List (Nat × V)) (fr : Option Nat) (S : St), aK prog 97 len parts fr S = aQ 23 [.int .i64 0,.int .i64 0,.int .i64 0,.str [],.int .i64 0,.str [],.int .i64 0,.int .i64 0,.int .i64 0,.int .i64 0,.int .i64 0,.int .i64 0,.int .i64 0,.nils,.str [],.int .i64 0,.int .i64 0,.int .i64 0,.int .i64 0,.int .i64 0,.int .i64 0,.int .i64 0,.int .i64 0] len parts fr S) ∧ (∀ (j : IntKind) (n : Int) (fr : Option Nat) (S : St), bH prog 229 3 (.int j n) fr S = .ok (.int .i64 (wr .i64 n), S)) ∧ (∀ (j : IntKind) (n : Int) (fr : Option Nat) (S : St), bH prog 229 5 (.int j n) fr S = .ok (.int .u8 (wr .u8 n), S)) ∧ (∀ (j : IntKind) (n : Int) (fr : Option Nat) (S : St), bH prog 3 229 (.int j n) fr S = .ok (.int .u64 (wr .u64 n), S)) ∧ (∀ (j : IntKind) (n : Int) (fr : Option Nat) (S : St), bH prog 3 231 (.int j n) fr S = .ok (.int .u64 (wr .u64 n), S)) ∧ (∀ (j : IntKind) (n : Int) (fr : Option Nat) (S : St), bH prog 5 229 (.int j n) fr S = .ok (.int .u64 (wr .u64 n), S)) ∧ (∀ (p : V), aA prog 126 p 0 = advW 0 p) ∧ (∀ (p : V), aA prog 126 p 1 = advW 1 p) ∧ (∀ (p : V), aA prog 126 p 2 = advW 2 p) ∧ (∀ (p : V), aA prog 126 p 3 = advW 3 p) ∧ (∀ (p : V), aA prog 132 p 0 = advW 0 p) ∧ (∀ (p : V), aA prog 132 p 1 = advW 1 p) ∧ (∀ (p : V), aA prog 132 p 2 = advW 2 p) ∧ (∀ (p : V), aA prog 142 p 0 = advW 0 p) ∧ (∀ (p : V), aA prog 142 p 1 = advW 1 p) ∧ (∀ (p : V), aA prog 142 p 2 = advW 2 p) ∧ (∀ (p : V), aA prog 145 p 0 = advW 0 p) ∧ (∀ (p : V), aA prog 145 p 1 = advW 1 p) ∧ (∀ (p : V), aA prog 145 p 2 = advW 2 p) ∧ (∀ (p : V), aA prog 145 p 3 = advW 3 p) ∧ (∀ (p : V), aA prog 160 p 0 = advW 0 p) ∧ (∀ (p : V), aA prog 201 p 0 = advW 0 p) ∧ (∀ (p : V), aA prog 201 p 1 = advW 1 p) ∧ (∀ (p : V), aA prog 201 p 2 = advW 2 p) ∧ (∀ (p : V), aA prog 201 p 3 = advW 3 p) ∧ (∀ (p : V), aA prog 207 p 0 = advW 0 p) ∧ (∀ (p : V), aA prog 207 p 1 = advW 17 p) ∧ (∀ (p : V), aA prog 207 p 2 = advW 18 p) ∧ (∀ (p : V), aA prog 207 p 3 = advW 19 p) ∧ (∀ (p : V), aA prog 207 p 4 = advW 20 p) ∧ (∀ (p : V), aA prog 220 p 1 = advW 1 p) ∧ (∀ (p : V), aA prog 220 p 2 = advW 2 p) ∧ (∀ (p : V), aA prog 225 p 0 = advW 0 p) ∧ (∀ (p : V), aA prog 225 p 1 = advW 1 p) ∧ (∀ (p : V), aA prog 225 p 2 = advW 2 p) ∧ (∀ (p : V), aA prog 287 p 0 = advW 0 p) ∧ (∀ (p : V), aA prog 287 p 1 = advW 1 p) ∧ (∀ (p : V), aA prog 30 p 0 = advW 0 p) ∧ (∀ (p : V), aA prog 30 p 1 = advW 1 p) ∧ (∀ (p : V), aA prog 30 p 2 = advW 2 p) ∧ (∀ (p : V), aA prog 30 p 3 = advW 3 p) ∧ (∀ (p : V), aA prog 30 p 4 = advW 4 p) ∧ (∀ (p : V), aA prog 30 p 5 = advW 5 p) ∧ (∀ (p : V), aA prog 346 p 0 = advW 0 p) ∧ (∀ (p : V), aA prog 346 p 1 = advW 1 p) ∧ (∀ (p : V), aA prog 48 p 0 = advW 0 p) ∧ (∀ (p : V), aA prog 48 p 1 = advW 1 p) ∧ (∀ (p : V), aA prog 48 p 2 = advW 2 p) ∧ (∀ (p : V), aA prog 52 p 0 = advW 0 p) ∧ (∀ (p : V), aA prog 52 p 1 = advW 1 p) ∧ (∀ (p : V), aA prog 52 p 2 = advW 2 p) ∧ (∀ (p : V), aA prog 54 p 0 = advW 0 p) ∧ (∀ (p : V), aA prog 54 p 1 = advW 1 p) ∧ (∀ (p : V), aA prog 54 p 2 = advW 4 p) ∧ (∀ (p : V), aA prog 57 p 0 = advW 0 p) ∧ (∀ (p : V), aA prog 57 p 1 = advW 1 p) ∧ (∀ (p : V), aA prog 59 p 0 = advW 0 p) ∧ (∀ (p : V), aA prog 59 p 1 = advW 1 p) ∧ (∀ (p : V), aA prog 59 p 2 = advW 2 p) ∧ (∀ (p : V), aA prog 59 p 3 = advW 3 p) ∧ (∀ (p : V), aA prog 59 p 4 = advW 8 p) ∧ (∀ (p : V), aA prog 59 p 5 = advW 11 p) ∧ (∀ (p : V), aA prog 59 p 6 = advW 12 p) ∧ (∀ (p : V), aA prog 59 p 7 = advW 14 p) ∧ (∀ (p : V), aA prog 61 p 0 = advW 0 p) ∧ (∀ (p : V), aA prog 61 p 1 = advW 1 p) ∧ (∀ (p : V), aA prog 61 p 2 = advW 2 p) ∧ (∀ (p : V), aA prog 76 p 0 = advW 0 p) ∧ (∀ (p : V), aA prog 76 p 1 = advW 1 p) ∧ (∀ (p : V), aA prog 76 p 2 = advW 2 p) ∧ (∀ (p : V), aA prog 76 p 3 = advW 3 p) ∧ (∀ (p : V), aA prog 77 p 0 = advW 0 p) ∧ (∀ (p : V), aA prog 77 p 1 = advW 1 p) ∧ (∀ (p : V), aA prog 77 p 2 = advW 2 p) ∧ (∀ (p : V), aA prog 77 p 3 = advW 3 p) ∧ (∀ (p : V), aA prog 82 p 0 = advW 0 p) ∧ (∀ (p : V), aA prog 82 p 1 = advW 1 p) ∧ (∀ (p : V), aA prog 82 p 2 = advW 2 p) ∧ (∀ (p : V), aA prog 82 p 3 = advW 3 p) ∧ (∀ (p : V), aA prog 84 p 0 = advW 0 p) ∧ (∀ (p : V), aA prog 84 p 1 = advW 2 p) ∧ (∀ (p : V), aA prog 84 p 2 = advW 5 p) ∧ (∀ (p : V), aA prog 84 p 3 = advW 9 p) ∧ (∀ (p : V), aA prog 84 p 4 = advW 11 p) ∧ (∀ (p : V), aA prog 90 p 0 = advW 0 p) ∧ (∀ (p : V), aA prog 90 p 1 = advW 1 p) ∧ (∀ (p : V), aA prog 99 p 0 = advW 0 p) ∧ (∀ (p : V), aA prog 99 p 1 = advW 17 p) ∧ (∀ (p : V), aA prog 99 p 2 = advW 18 p) ∧ (∀ (p : V), aA prog 99 p 3 = advW 19 p) ∧ (∀ (p : V), aA prog 99 p 4 = advW 20 p) ∧ (∀ (x i : V), aC prog 102 x i = cP 23 x i) ∧ (∀ (x i : V), aC prog 114 x i = cP 3 x i) ∧ (∀ (x i : V), aC prog 22 x i = cP 1 x i) ∧ (∀ (x i : V), aC prog 24 x i = cP 5 x i) ∧ (∀ (x i : V), aC prog 25 x i = cP 4 x i) ∧ (∀ (x i : V), aC prog 26 x i = cP 12 x i) ∧ (∀ (x i : V), aC prog 27 x i = cP 2 x i) ∧ (∀ (x i : V), aC prog 28 x i = cP 5 x i) ∧ (∀ (x i : V), aC prog 361 x i = cP 1 x i) ∧ (∀ (x i : V), aC prog 364 x i = cP 1 x i) ∧ (∀ (x i : V), aC prog 44 x i = cP 17 x i) ∧ (∀ (x i : V), aC prog 55 x i = cP 4 x i) ∧ (∀ (x i : V), aC prog 62 x i = cP 3 x i) ∧ (∀ (x i : V), aC prog 68 x i = cP 4 x i) ∧ (∀ (x i : V), aC prog 71 x i = cP 4 x i) ∧ (∀ (x i : V), aC prog 80 x i = cP 4 x i) ∧ (∀ (x i : V), aC prog 96 x i = cP 1 x i) ∧ (∀ (x i : V), aC prog 97 x i = cP 23 x i) ∧ (∀ (p : V) (S : St), aB prog 126 p S = bB (some 4) p S) ∧ (∀ (p : V) (S : St), aB prog 132 p S = bB (some 5) p S) ∧ (∀ (p : V) (S : St), aB prog 145 p S = bB (some 4) p S) ∧ (∀ (p : V) (S : St), aB prog 2 p S = bB none p S) ∧ (∀ (p : V) (S : St), aB prog 201 p S = bB (some 4) p S) ∧ (∀ (p : V) (S : St), aB prog 212 p S = bB (some 1) p S) ∧ (∀ (p : V) (S : St), aB prog 22 p S = bB none p S) ∧ (∀ (p : V) (S : St), aB prog 220 p S = bB (some 3) p S) ∧ (∀ (p : V) (S : St), aB prog 229 p S = bB none p S) ∧ (∀ (p : V) (S : St), aB prog 232 p S = bB none p S) ∧ (∀ (p : V) (S : St), aB prog 24 p S = bB none p S) ∧ (∀ (p : V) (S : St), aB prog 25 p S = bB none p S) ∧ (∀ (p : V) (S : St), aB prog 26 p S = bB none p S) ∧ (∀ (p : V) (S : St), aB prog 27 p S = bB none p S) ∧ (∀ (p : V) (S : St), aB prog 28 p S = bB none p S) ∧ (∀ (p : V) (S : St), aB prog 3 p S = bB none p S) ∧ (∀ (p : V) (S : St), aB prog 30 p S = bB (some 6) p S) ∧ (∀ (p : V) (S : St), aB prog 31 p S = bB none p S) ∧ (∀ (p : V) (S : St), aB prog 346 p S = bB (some 2) p S) ∧ (∀ (p : V) (S : St), aB prog 349 p S = bB none p S) ∧ (∀ (p : V) (S : St), aB prog 4 p S = bB none p S) ∧ (∀ (p : V) (S : St), aB prog 48 p S = bB (some 3) p S) ∧ (∀ (p : V) (S : St), aB prog 5 p S = bB none p S) ∧ (∀ (p : V) (S : St), aB prog 52 p S = bB (some 3) p S) ∧ (∀ (p : V) (S : St), aB prog 54 p S = bB (some 5) p S) ∧ (∀ (p : V) (S : St), aB prog 55 p S = bB none p S) ∧ (∀ (p : V) (S : St), aB prog 57 p S = bB (some 2) p S) ∧ (∀ (p : V) (S : St), aB prog 59 p S = bB (some 15) p S) ∧ (∀ (p : V) (S : St), aB prog 61 p S = bB (some 17) p S) ∧ (∀ (p : V) (S : St), aB prog 76 p S = bB (some 4) p S) ∧ (∀ (p : V) (S : St), aB prog 80 p S = bB none p S) ∧ (∀ (p : V) (S : St), aB prog 82 p S = bB (some 4) p S) ∧ (∀ (p : V) (S : St), aB prog 84 p S = bB (some 12) p S) ∧ (∀ (p : V) (S : St), aB prog 9 p S = bB none p S) ∧ (∀ (p : V) (S : St), aB prog 90 p S = bB (some 2) p S) ∧ (∀ (p : V) (S : St), aB prog 99 p S = bB (some 23) p S) ∧ (∀ (x : V) (S : St), bF prog 102 x S = lenW x) ∧ (∀ (x : V) (S : St), bF prog 114 x S = lenW x) ∧ (∀ (x : V) (S : St), bF prog 22 x S = lenW x) ∧ (∀ (x : V) (S : St), bF prog 24 x S = lenW x) ∧ (∀ (x : V) (S : St), bF prog 25 x S = lenW x) ∧ (∀ (x : V) (S : St), bF prog 26 x S = lenW x) ∧ (∀ (x : V) (S : St), bF prog 27 x S = lenW x) ∧ (∀ (x : V) (S : St), bF prog 28 x S = lenW x) ∧ (∀ (x : V) (S : St), bF prog 361 x S = lenW x) ∧ (∀ (x : V) (S : St), bF prog 364 x S = lenW x) ∧ (∀ (x : V) (S : St), bF prog 44 x S = lenW x) ∧ (∀ (x : V) (S : St), bF prog 55 x S = lenW x) ∧ (∀ (x : V) (S : St), bF prog 62 x S = lenW x) ∧ (∀ (x : V) (S : St), bF prog 68 x S = lenW x) ∧ (∀ (x : V) (S : St), bF prog 71 x S = lenW x) ∧ (∀ (x : V) (S : St), bF prog 80 x S = lenW x) ∧ (∀ (s : List UInt8) (S : St), bF prog 9 (.str s) S = .ok (.int .i64 s.length)) ∧ (∀ (x : V) (S : St), bF prog 96 x S = lenW x) ∧ (∀ (x : V) (S : St), bF prog 97 x S = lenW x) ∧ (∀ (a ver off len : Nat) (lo hi : Option V), cI prog 22 (.sl a ver 1 off len) lo hi = (match cH len lo hi with
      | .ok (l, h) => .ok (.sl a ver 1 (off + l) (h - l))
      | .error e => .error e)) ∧ (∀ (a ver off len : Nat) (lo hi : Option V), cI prog 24 (.sl a ver 5 off len) lo hi = (match cH len lo hi with
      | .ok (l, h) => .ok (.sl a ver 5 (off + l) (h - l))
      | .error e => .error e)) ∧ (∀ (a ver off len : Nat) (lo hi : Option V), cI prog 25 (.sl a ver 4 off len) lo hi = (match cH len lo hi with
      | .ok (l, h) => .ok (.sl a ver 4 (off + l) (h - l))
      | .error e => .error e)) ∧ (∀ (a ver off len : Nat) (lo hi : Option V), cI prog 26 (.sl a ver 12 off len) lo hi = (match cH len lo hi with
      | .ok (l, h) => .ok (.sl a ver 12 (off + l) (h - l))
      | .error e => .error e)) ∧ (∀ (a ver off len : Nat) (lo hi : Option V), cI prog 27 (.sl a ver 2 off len) lo hi = (match cH len lo hi with
      | .ok (l, h) => .ok (.sl a ver 2 (off + l) (h - l))
      | .error e => .error e)) ∧ (∀ (a ver off len : Nat) (lo hi : Option V), cI prog 28 (.sl a ver 5 off len) lo hi = (match cH len lo hi with
      | .ok (l, h) => .ok (.sl a ver 5 (off + l) (h - l))
      | .error e => .error e)) ∧ (∀ (a ver off len : Nat) (lo hi : Option V), cI prog 55 (.sl a ver 4 off len) lo hi = (match cH len lo hi with
      | .ok (l, h) => .ok (.sl a ver 4 (off + l) (h - l))
      | .error e => .error e)) ∧ (∀ (a ver off len : Nat) (lo hi : Option V), cI prog 71 (.sl a ver 4 off len) lo hi = (match cH len lo hi with
      | .ok (l, h) => .ok (.sl a ver 4 (off + l) (h - l))
      | .error e => .error e)) ∧ (∀ (a ver off len : Nat) (lo hi : Option V), cI prog 80 (.sl a ver 4 off len) lo hi = (match cH len lo hi with
      | .ok (l, h) => .ok (.sl a ver 4 (off + l) (h - l))
      | .error e => .error e)) ∧ (∀ (a ver off len : Nat) (lo hi : Option V), cI prog 96 (.sl a ver 1 off len) lo hi = (match cH len lo hi with
      | .ok (l, h) => .ok (.sl a ver 1 (off + l) (h - l))
      | .error e => .error e)) ∧ (∀ (a ver off len : Nat) (lo hi : Option V), cI prog 97 (.sl a ver 23 off len) lo hi = (match cH len lo hi with
      | .ok (l, h) => .ok (.sl a ver 23 (off + l) (h - l))
      | .error e => .error e)) ∧ (∀ (p x : V) (S : St), aG prog 126 p x S = aV 4 p x S) ∧ (∀ (p x : V) (S : St), aG prog 132 p x S = aV 5 p x S) ∧ (∀ (p x : V) (S : St), aG prog 145 p x S = aV 4 p x S) ∧ (∀ (p x : V) (S : St), aG prog 201 p x S = aV 4 p x S) ∧ (∀ (p x : V) (S : St), aG prog 212 p x S = aV 1 p x S) ∧ (∀ (p x : V) (S : St), aG prog 22 p x S = aV 1 p x S) ∧ (∀ (p x : V) (S : St), aG prog 220 p x S = aV 3 p x S) ∧ (∀ (p x : V) (S : St), aG prog 232 p x S = aV 1 p x S) ∧ (∀ (p x : V) (S : St), aG prog 24 p x S = aV 1 p x S) ∧ (∀ (p x : V) (S : St), aG prog 25 p x S = aV 1 p x S) ∧ (∀ (p x : V) (S : St), aG prog 26 p x S = aV 1 p x S) ∧ (∀ (p x : V) (S : St), aG prog 27 p x S = aV 1 p x S) ∧ (∀ (p x : V) (S : St), aG prog 28 p x S = aV 1 p x S) ∧ (∀ (p x : V) (S : St), aG prog 3 p x S = aV 1 p x S) ∧ (∀ (p x : V) (S : St), aG prog 30 p x S = aV 6 p x S) ∧ (∀ (p x : V) (S : St), aG prog 31 p x S = aV 1 p x S) ∧ (∀ (p x : V) (S : St), aG prog 346 p x S = aV 2 p x S) ∧ (∀ (p x : V) (S : St), aG prog 4 p x S = aV 1 p x S) ∧ (∀ (p x : V) (S : St), aG prog 48 p x S = aV 3 p x S) ∧ (∀ (p x : V) (S : St), aG prog 5 p x S = aV 1 p x S) ∧ (∀ (p x : V) (S : St), aG prog 52 p x S = aV 3 p x S) ∧ (∀ (p x : V) (S : St), aG prog 54 p x S = aV 5 p x S) ∧ (∀ (p x : V) (S : St), aG prog 55 p x S = aV 1 p x S) ∧ (∀ (p x : V) (S : St), aG prog 57 p x S = aV 2 p x S) ∧ (∀ (p x : V) (S : St), aG prog 59 p x S = aV 15 p x S) ∧ (∀ (p x : V) (S : St), aG prog 61 p x S = aV 17 p x S) ∧ (∀ (p x : V) (S : St), aG prog 80 p x S = aV 1 p x S) ∧ (∀ (p x : V) (S : St), aG prog 82 p x S = aV 4 p x S) ∧ (∀ (p x : V) (S : St), aG prog 84 p x S = aV 12 p x S) ∧ (∀ (p x : V) (S : St), aG prog 9 p x S = aV 1 p x S) ∧ (∀ (p x : V) (S : St), aG prog 90 p x S = aV 2 p x S) ∧ (∀ (p x : V) (S : St), aG prog 99 p x S = aV 23 p x S) := ⟨aYi, bB8, bB9, bBa, bBb, bBc, bBd, bBe, bBf, bBg, bBh, bBi, bBj, bBk, bBl, bBm, bBn, bBo, bBp, bBq, bBr, bBs, bBt, bBu, bGh, bBv, bGi, bGj, bGk, bGl, bGm, bGn, bGo, bGp, bGq, bGr, bGs, bGt, bBw, bGu, bGv, bGw, bGx, bGy, bGz, bBx, bBy, bH0, bH1, bH2, bH3, bH4, bH5, bH6, bH7, aV4, aV5, aV6, aV7, aV8, aV9, aVa, aVb, aVc, aVd, aVe, aVf, aVg, aVh, aVi, aVj, aVk, aVl, aVm, aVn, aVo, aVp, aVq, aVr, aVs, aVt, aVu, aVv, aVw, aVx, aVy, aVz, aW0, aW1, aW2, aW3, aYo, aYp, aYq, aYr, aYs, aYt, aW4, aW5, aYu, aYv, aYw, aYx, aYy, aYz, aZ0, aZ1, aZ2, aZ3, aZ4, aZ5, aZ6, aZ7, aZ8, aZ9, aZa, aZb, aZc, aZd, aZe, aZf, aZg, aZh, aZi, aZj, aZk, aZl, aZm, aZn, aZo, aZp, aZq, aZr, aZs, aZt, aZu, aZv, aZw, aZx, aZy, aZz, bA0, bA1, bA2, bA3, bCf, bCg, bHk, bHl, bHm, bHn, bHo, bHp, bCh, bCi, bHq, bHr, bHs, bHt, bHu, bHv, bHw, bHx, bCj, bCk, bCl, ld2, bCm, bCn, bHz, bCo, bCp, bCq, bI0, bI1, bI2, bI3, bI4, ld3, bI6, bI7, bCr, bCs, ld4, bI8, ld5, bI9, bIa, bIb, bIc, bId, bIe, bIf, bIg, bIh, bIi, ld9, bIj, bIk, bA4, bA5, bCt, bCu, bCv, bCw, bCx, bCy, bA6, bA7, bCz, bD0, bD1, bD2, bD3, bD4, bIl, bD5, bD6, bIm, bIn, bIo, bIp, bIq, bIr, bIs, bIt, bIu, bIv, bIw, bD9, bDa, bDb, bDc, bDd, bIx, bDe, bDf, bIy, bIz, bJ0, bJ1, bJ2, st3, bJ3, bJ4, bDg, st4, bJ5, st5, bJ6, bJ7, bJ8, bJ9, bJa, bJb, bJc, bJd, bJe, st9, bJf, bJg⟩
theorem ls:(∀ {α:Type} (a:α) (l:List α),(a::l)[0]?=some a)∧(∀ {α:Type} (a:α) (l:List α) (i:Nat),(a::l)[i+1]?=l[i]?)∧(∀ {α:Type} (i:Nat),([]:List α)[i]?=none)∧(∀ {α:Type} (a:α) (l:List α),(a::l).length=l.length+1)∧(∀ {α:Type},([]:List α).length=0) ∧
  (∀ {α:Type} (l:List α),l.drop 0=l)∧(∀ {α:Type} (a:α) (l:List α) (i:Nat),(a::l).drop (i+1)=l.drop i)∧(∀ {α:Type} (l:List α),l.take 0=[])∧(∀ {α:Type} (a:α) (l:List α) (i:Nat),(a::l).take (i+1)=a::l.take i)∧(∀ {α:Type} (i:Nat),([]:List α).take i=[])∧(∀ {α:Type} (i:Nat),([]:List α).drop i=[]) ∧
  (∀ {α:Type} (l:List α),[]++l=l)∧(∀ {α:Type} (a:α) (l m:List α),a::l++m=a::(l++m))∧(∀ {α:Type} (a b:α) (l:List α),(a::l).set 0 b=b::l)∧(∀ {α:Type} (a b:α) (l:List α) (i:Nat),(a::l).set (i+1) b=a::l.set i b) ∧
  (∀ b:Bool,(true&&b)=b)∧(∀ b:Bool,(b&&true)=b)∧(∀ b:Bool,(!!b)=b)∧(∀ {p q:Prop},(if true=true then p else q)=p)∧(∀ {p q:Prop},(if false=true then p else q)=q)∧(!true)=false∧(!false)=true∧(∀ {α:Type} (a b:α),(if True then a else b)=a)∧(∀ {α:Type} (a b:α),(if False then a else b)=b)∧(∀ n:Nat,0+n=n)∧(∀ n:Nat,n+0=n)∧(∀ {α:Type} (f:α→List V) (l:List α),(l.map f).length=l.length) ∧
  (∀ (p:Prop) [Decidable p],(decide p=true)=p)∧(∀ (p:Prop) [Decidable p],((!decide p)=true)=¬ p)∧(∀ p:Prop,(p∧True)=p)∧(∀ p:Prop,(True∧p)=p)∧(∀ n:Nat,(n≤n)=True)∧(∀ n:Nat,(0≤n)=True)∧(∀ (a:Nat),(a=a)=True):=
 ⟨fun _ _=>rfl,fun _ _ _=>rfl,fun _=>rfl,fun _ _=>rfl,rfl,fun _=>rfl,fun _ _ _=>rfl,fun _=>rfl,fun _ _ _=>rfl,fun _=>by simp,fun _=>by simp,fun _=>rfl,fun _ _ _=>rfl,fun _ _ _=>rfl,fun _ _ _ _=>rfl,Bool.true_and,Bool.and_true,Bool.not_not,by intros;rfl,by intros;rfl,rfl,rfl,fun _ _=>if_pos trivial,fun _ _=>if_neg id,Nat.zero_add,Nat.add_zero,fun _ _=>List.length_map ..,fun p _=>by simp,fun p _=>by simp,and_true,true_and,fun n=>by simp,fun n=>by simp,fun n=>by simp⟩
theorem gm (n:Nat) (S:St) (a v:Nat):aI ⟨n,S.heap⟩ a v=aI S a v:=rfl
theorem bE8 {l:List Int} {i:Nat} {a:Int} (hi:l[i]?=some a) (k:IntKind):cP 1 (.imm (l.map gX)) (.int k (i:Int))=.ok (.iptr (gX a) 0):=ixI (enc:=gX) hi rfl k
theorem aFu {l:List Rate} {i:Nat} {a:Rate} (hi:l[i]?=some a) (k:IntKind):cP 5 (.imm (l.map Rate.enc)) (.int k (i:Int))=.ok (.iptr a.enc 0):=ixI (enc:=Rate.enc) hi rfl k
theorem yO {l:List Ser} {i:Nat} {a:Ser} (hi:l[i]?=some a) (k:IntKind):cP 4 (.imm (l.map Ser.enc)) (.int k (i:Int))=.ok (.iptr a.enc 0):=ixI (enc:=Ser.enc) hi rfl k
theorem aBf {l:List Sess} {i:Nat} {a:Sess} (hi:l[i]?=some a) (k:IntKind):cP 5 (.imm (l.map Sess.enc)) (.int k (i:Int))=.ok (.iptr a.enc 0):=ixI (enc:=Sess.enc) hi rfl k
theorem aD9 {l:List Bal} {i:Nat} {a:Bal} (hi:l[i]?=some a) (k:IntKind):cP 2 (.imm (l.map Bal.enc)) (.int k (i:Int))=.ok (.iptr a.enc 0):=ixI (enc:=Bal.enc) hi rfl k
theorem tL {l:List Part} {i:Nat} {a:Part} (hi:l[i]?=some a) (k:IntKind):cP 4 (.imm (l.map Part.enc)) (.int k (i:Int))=.ok (.iptr a.enc 0):=ixI (enc:=Part.enc) hi rfl k
theorem bAa {l:List Line} {i:Nat} {a:Line} (hi:l[i]?=some a) (k:IntKind):cP 4 (.imm (l.map Line.enc)) (.int k (i:Int))=.ok (.iptr a.enc 0):=ixI (enc:=Line.enc) hi rfl k
theorem dF {α:Type} {l:List α} {i:Nat} {a:α} (h:l[i]?=some a):((i:Int)<(l.length:Int))=True:=by
 have:=(List.getElem?_eq_some_iff.1 h).1
 simp;exact this
theorem nH {i:Nat} (h:i<1000000000):wr .i64 ((i:Int)+1)=((i+1:Nat):Int):=by rw [qH (by omega) (by omega)];omega
theorem wrm {i:Nat} (h:i+1<1000000000):wr .i64 (((i+1:Nat):Int) - 1)=(i:Int):=by rw [qH (by omega) (by omega)];omega
theorem gt0 (i:Nat):((0:Int)<((i+1:Nat):Int))=True:=by simp
theorem aP7 {n i a:Nat} (h:(List.range n)[i]?=some a):i<n∧a=i:=by
 have hl:i<n:=by simpa using (List.getElem?_eq_some_iff.1 h).1
 rw [List.getElem?_range hl] at h
 exact ⟨hl,(Option.some.inj h).symm⟩
theorem oo : (∀ (S : St) (v : V), bZ S v = dK mF (pO (kU S 3) S) v) ∧ (∀ (σ : V → Go.AM.R V) (l : List V), dK mF σ (.tup l) = (match frzVs mF σ l with
      | .ok cs => .ok (.tup cs)
      | .error e => .error e)) ∧ (∀ (σ : V → Go.AM.R V) (l : List V), dK mF σ (.agg l) = (match frzVs mF σ l with
      | .ok cs => .ok (.agg cs)
      | .error e => .error e)) ∧ (∀ σ : V → Go.AM.R V, frzVs mF σ [] = .ok []) ∧ (∀ (σ : V → Go.AM.R V) (v : V) (l : List V), frzVs mF σ (v :: l) = (match dK mF σ v with
      | .ok v => (match frzVs mF σ l with
        | .ok l => .ok (v :: l)
        | .error e => .error e)
      | .error e => .error e)) ∧ (∀ (σ : V → Go.AM.R V) (b : Bool), dK mF σ (.bool b) = .ok (.bool b)) ∧ (∀ (σ : V → Go.AM.R V) (k : IntKind) (n : Int), dK mF σ (.int k n) = .ok (.int k n)) ∧ (∀ (σ : V → Go.AM.R V) (s : List UInt8), dK mF σ (.str s) = .ok (.str s)) ∧
    (∀ (σ : V → Go.AM.R V) (es : List (List V)), dK mF σ (.imm es) = .ok (.imm es)) ∧ (∀ σ : V → Go.AM.R V, dK mF σ .nils = .ok (.imm [])) ∧ (∀ (σ : V → Go.AM.R V) (a b c d e : Nat), dK mF σ (.sl a b c d e) = σ (.sl a b c d e)) :=
  ⟨fun _ _ => rfl, fun σ l => by simp only [dK] <;> rfl, fun σ l => by simp only [dK] <;> rfl, fun _ => rfl, fun σ v l => by simp only [frzVs] <;> rfl, fun _ _ => rfl, fun _ _ _ => rfl, fun _ _ => rfl, fun _ _ => rfl, fun _ => rfl, fun _ _ _ _ _ _ => rfl⟩
theorem unK:(∀ (k:IntKind) (n:Int),jA .neg (.int k n)=.ok (.int k (wr k (0 - n))))∧(∀ n:Int,jA .xor (.int .u64 n)=.ok (.int .u64 (aMp n))):=⟨fun _ _=>rfl,fun _=>rfl⟩
theorem nk:(∀ n:Nat,(0=n+1)=False)∧(∀ n:Nat,(n+1=0)=False)∧(∀ n m:Nat,(n+1=m+1)=(n=m))∧(∀ {α:Type} {a b:α},(a≠b)=¬ a=b)∧(¬ False)=True:=⟨fun n=>by simp,fun n=>by simp,fun n m=>by simp,by intros;rfl,by simp⟩
theorem ex:(∀ (a_0:List UInt8) (a_1:Int) (a_2:Int) (a_3:Bool) (b_0:List UInt8) (b_1:Int) (b_2:Int) (b_3:Bool),mC prog 100 126 (.agg [.str a_0,.int .i64 a_1,.int .i64 a_2,.bool a_3]) (.agg [.str b_0,.int .i64 b_1,.int .i64 b_2,.bool b_3])=.ok ((a_0 == b_0)&&decide (a_1=b_1)&&decide (a_2=b_2)&&(a_3 == b_3)))∧(∀ (a_0:Int) (a_1:Int) (a_2_0:Int) (a_2_1:Int) (a_2_2:Int) (b_0:Int) (b_1:Int) (b_2_0:Int) (b_2_1:Int) (b_2_2:Int),mC prog 100 132 (.agg [.int .i64 a_0,.int .i64 a_1,.int .i64 a_2_0,.int .i64 a_2_1,.int .i64 a_2_2]) (.agg [.int .i64 b_0,.int .i64 b_1,.int .i64 b_2_0,.int .i64 b_2_1,.int .i64 b_2_2])=.ok (decide (a_0=b_0)&&decide (a_1=b_1)&&decide (a_2_0=b_2_0)&&decide (a_2_1=b_2_1)&&decide (a_2_2=b_2_2)))∧(∀ (a_0:List UInt8) (a_1:Int) (a_2:Int) (a_3:Int) (b_0:List UInt8) (b_1:Int) (b_2:Int) (b_3:Int),mC prog 100 145 (.agg [.str a_0,.int .i64 a_1,.int .i64 a_2,.int .i64 a_3]) (.agg [.str b_0,.int .i64 b_1,.int .i64 b_2,.int .i64 b_3])=.ok ((a_0 == b_0)&&decide (a_1=b_1)&&decide (a_2=b_2)&&decide (a_3=b_3)))∧(∀ (a_0:List UInt8) (a_1:List UInt8) (a_2:Int) (a_3:Int) (b_0:List UInt8) (b_1:List UInt8) (b_2:Int) (b_3:Int),mC prog 100 201 (.agg [.str a_0,.str a_1,.int .i64 a_2,.int .i64 a_3]) (.agg [.str b_0,.str b_1,.int .i64 b_2,.int .i64 b_3])=.ok ((a_0 == b_0)&&(a_1 == b_1)&&decide (a_2=b_2)&&decide (a_3=b_3)))∧(∀ (a_0:Int) (a_1:Int) (b_0:Int) (b_1:Int),mC prog 100 346 (.agg [.int .i64 a_0,.int .u64 a_1]) (.agg [.int .i64 b_0,.int .u64 b_1])=.ok (decide (a_0=b_0)&&decide (a_1=b_1)))∧(∀ (a_0:Int) (a_1:Int) (a_2:Int) (b_0:Int) (b_1:Int) (b_2:Int),mC prog 100 48 (.agg [.int .i64 a_0,.int .i64 a_1,.int .i64 a_2]) (.agg [.int .i64 b_0,.int .i64 b_1,.int .i64 b_2])=.ok (decide (a_0=b_0)&&decide (a_1=b_1)&&decide (a_2=b_2)))∧(∀ (a_0:Int) (a_1:Int) (a_2:Int) (b_0:Int) (b_1:Int) (b_2:Int),mC prog 100 52 (.agg [.int .i64 a_0,.int .i64 a_1,.int .i64 a_2]) (.agg [.int .i64 b_0,.int .i64 b_1,.int .i64 b_2])=.ok (decide (a_0=b_0)&&decide (a_1=b_1)&&decide (a_2=b_2)))∧(∀ (a_0:List UInt8) (a_1_0:Int) (a_1_1:Int) (a_1_2:Int) (a_2:Int) (b_0:List UInt8) (b_1_0:Int) (b_1_1:Int) (b_1_2:Int) (b_2:Int),mC prog 100 54 (.agg [.str a_0,.int .i64 a_1_0,.int .i64 a_1_1,.int .i64 a_1_2,.int .i64 a_2]) (.agg [.str b_0,.int .i64 b_1_0,.int .i64 b_1_1,.int .i64 b_1_2,.int .i64 b_2])=.ok ((a_0 == b_0)&&decide (a_1_0=b_1_0)&&decide (a_1_1=b_1_1)&&decide (a_1_2=b_1_2)&&decide (a_2=b_2)))∧(∀ (a_0:List UInt8) (a_1:Int) (b_0:List UInt8) (b_1:Int),mC prog 100 57 (.agg [.str a_0,.int .i64 a_1]) (.agg [.str b_0,.int .i64 b_1])=.ok ((a_0 == b_0)&&decide (a_1=b_1)))∧(∀ (a_0:List UInt8) (a_1:Int) (a_2:Int) (a_3:Int) (b_0:List UInt8) (b_1:Int) (b_2:Int) (b_3:Int),mC prog 100 76 (.agg [.str a_0,.int .i64 a_1,.int .i64 a_2,.int .i64 a_3]) (.agg [.str b_0,.int .i64 b_1,.int .i64 b_2,.int .i64 b_3])=.ok ((a_0 == b_0)&&decide (a_1=b_1)&&decide (a_2=b_2)&&decide (a_3=b_3)))∧(∀ (a_0:List UInt8) (a_1:Int) (b_0:List UInt8) (b_1:Int),mC prog 100 90 (.agg [.str a_0,.int .i64 a_1]) (.agg [.str b_0,.int .i64 b_1])=.ok ((a_0 == b_0)&&decide (a_1=b_1)))∧(∀ a b:List V,aL prog 126 (.agg a) (.agg b)=true)∧(∀ a b:List V,aL prog 132 (.agg a) (.agg b)=true)∧(∀ a b:List V,aL prog 145 (.agg a) (.agg b)=true)∧(∀ a b:List V,aL prog 201 (.agg a) (.agg b)=true)∧(∀ a b:List V,aL prog 346 (.agg a) (.agg b)=true)∧(∀ a b:List V,aL prog 48 (.agg a) (.agg b)=true)∧(∀ a b:List V,aL prog 52 (.agg a) (.agg b)=true)∧(∀ a b:List V,aL prog 54 (.agg a) (.agg b)=true)∧(∀ a b:List V,aL prog 57 (.agg a) (.agg b)=true)∧(∀ a b:List V,aL prog 76 (.agg a) (.agg b)=true)∧(∀ a b:List V,aL prog 90 (.agg a) (.agg b)=true):=⟨bBz,bC1,bC3,bC5,bC7,bH8,bHa,bHc,bHe,bHg,bHi,fun a b=>congrFun (congrFun bC0 a) b,fun a b=>congrFun (congrFun bC2 a) b,fun a b=>congrFun (congrFun bC4 a) b,fun a b=>congrFun (congrFun bC6 a) b,fun a b=>congrFun (congrFun bC8 a) b,fun a b=>congrFun (congrFun bH9 a) b,fun a b=>congrFun (congrFun bHb a) b,fun a b=>congrFun (congrFun bHd a) b,fun a b=>congrFun (congrFun bHf a) b,fun a b=>congrFun (congrFun bHh a) b,fun a b=>congrFun (congrFun bHj a) b⟩
theorem agK (P : Program) : (∀ (t : TypeId) (a b : List V), aH P .eql t (.agg a) (.agg b) = (match mC P 100 t (.agg a) (.agg b) with
      | .ok r => .ok (.bool r)
      | .error e => .error e)) ∧ (∀ (t : TypeId) (a b : List V), aH P .neq t (.agg a) (.agg b) = (match mC P 100 t (.agg a) (.agg b) with
      | .ok r => .ok (.bool (!r))
      | .error e => .error e)) := ⟨fun _ _ _ => rfl, fun _ _ _ => rfl⟩
theorem kk:type_of% ex∧type_of% (agK prog)∧type_of% aX4∧type_of% nk∧type_of% kit∧type_of% (bE6 prog)∧type_of% bE7∧type_of% fx∧type_of% ls:=⟨ex,agK prog,aX4,nk,kit,bE6 prog,bE7,fx,ls⟩
theorem bNa (y:Int) (S:St) (K:KW):C 204 [.int .i64 y] S K=K (.bool (aJj y)) S:=by
 refine (bLq rfl ?_).eq S K
 simp only [aTl,kk,ne_eq,Int.reduceEq,not_false_eq_true,aJj]
 grind
theorem bE9 (y m:Int) (S:St) (K:KW):C 132 [.int .i64 y,.int .i64 m] S K=K (.int .i64 (fO y m)) S:=by
 refine (bK9 rfl ?_).eq S K
 simp only [aS7,kk,bNa,fO]
 grind
theorem zH (d:Date) (S:St) (K:KW):C 123 [.agg [.int .i64 d.y,.int .i64 d.m,.int .i64 d.d]] S K=K (.bool d.right) S:=by
 refine (bJv rfl ?_).eq S K
 simp only [aRt,kk,bE9,Date.right]
 grind
theorem bNb (y:Int) (S:St) (K:KW):C 131 [.int .i64 y] S K=K (.int .i64 (ahead y)) S:=by
 refine (bK7 rfl ?_).eq S K
 simp only [aS5,kk,ne_eq,Int.reduceEq,not_false_eq_true,ahead]
theorem bNc (d:Date) (S:St) (K:KW):C 200 [.agg [.int .i64 d.y,.int .i64 d.m,.int .i64 d.d]] S K=K (.int .i64 d.days) S:=by
 refine (bLk rfl ?_).eq S K
 simp only [aTf,kk,zH,bNb,Date.days]
 by_cases hr:d.right=true
 ·simp only [hr,kk]
  have hm:1≤d.m∧d.m≤12:=by simp only [Date.right,Bool.and_eq_true,decide_eq_true_eq] at hr;omega
  refine aY (List.range (d.m - 1).toNat) (step:=lK d.y) (fin:=id) (fun i n vs S=>vs=[.int .i64 n,.int .i64 ((i:Int)+1)]∧aI S 0 0=.ok (3,[d.enc])) (fun r=>V.int .i64 (wr .i64 (wr .i64 (r+d.d) - 1))=.int .i64 (wr .i64 (wr .i64 (aS (lK d.y) id (List.range (d.m - 1).toNat) (ahead d.y)+d.d) - 1))) ?_ ?_ ⟨rfl,by simp only [kk];rfl⟩ rfl
  ·rintro i a n vs S hi ⟨rfl,hg⟩ aO H
   obtain ⟨hil,rfl⟩:=aP7 hi
   simp only [lK] at H
   simp only [aF7,kk,hg,Date.enc,bE9]
   rw [if_pos (by omega)]
   refine H _ _ ⟨?_,hg⟩
   rw [qH (n:=(a:Int)+1+1) (by omega) (by omega)]
   simp
  ·rintro n vs S ⟨rfl,hg⟩ aO H
   simp only [aF7,kk,hg,Date.enc]
   rw [if_neg (by simp;omega)]
   exact H
 ·have hr:d.right=false:=by simpa using hr
  simp only [hr,kk]
  rfl
theorem aP8 (a b:Date) (S:St) (K:KW):C 124 [.agg [.int .i64 a.y,.int .i64 a.m,.int .i64 a.d],.agg [.int .i64 b.y,.int .i64 b.m,.int .i64 b.d]] S K=K (.bool (a.before b)) S:=by
 refine (bJx rfl ?_).eq S K
 simp only [aRv,kk,iL,zH,bNc,Date.before]
 cases a.right<;>cases b.right<;>simp
theorem bNd (n:Int) (S:St) (K:KW):C 286 [.int .i64 n] S K=K (.int .u64 (nQ n)) S:=by
 refine (bN5 rfl ?_).eq S K
 simp only [aV0,kk,unK,nQ]
 split<;>rfl
theorem bNe (n:Int) (b:Bool) (S:St) (K:KW):C 287 [.int .u64 n,.bool b] S K=K (.tup [.int .i64 (aA1 n b).1,.bool (aA1 n b).2]) S:=by
 refine (bN7 rfl ?_).eq S K
 simp only [aV2,kk,unK,oo,aA1]
 cases b<;>simp
theorem aP9 (a b:Int) (S:St) (K:KW):C 203 [.int .i64 a,.int .i64 b] S K=K (fZ (cN a b)) S:=by
 refine (bLo rfl ?_).eq S K
 simp only [aTj,vB,kk,oo,cN,fZ]
 grind
theorem bAb (a b:Int) (S:St) (K:KW):C 219 [.int .i64 a,.int .i64 b] S K=K (fZ (jO a b)) S:=by
 refine (bLw rfl ?_).eq S K
 simp only [aTr,vC,kk,oo,jO,fZ]
 grind
theorem bNf:(fun (a b:Bool)=>aH prog .neq 4 (.bool a) (.bool b))=fun a b=>.ok (.bool (!(a == b))):=by kernel_rfl
theorem bNg (a b:Bool):aH prog .neq 4 (.bool a) (.bool b)=.ok (.bool (!(a == b))):=congrFun (congrFun bNf a) b
theorem bNh (a b:Int) (S:St) (K:KW):C 279 [.int .i64 a,.int .i64 b] S K=K (fZ (aJk a b)) S:=by
 refine (bN3 rfl ?_).eq S K
 simp only [aUy,aFp,kk,bNd,bNe,bNg,oo,fZ,aJk]
 by_cases h:0<nQ b
 ·have h0:nQ b≠0:=by omega
  simp only [h,h0,kk,ne_eq,not_false_eq_true]
  grind
 ·simp only [h,kk]
  grind
theorem bNi (n bp:Int) (S:St) (K:KW):C 254 [.int .i64 n,.int .i64 bp,.int .i64 10000] S K=K (fZ (cD n bp)) S:=by
 refine (bMn rfl ?_).eq S K
 simp only [aUi,aFh,aFg,kk,unK,oo,fZ,bA9,aB7,ne_eq,Int.reduceEq,not_false_eq_true]
 unfold cD
 simp only [nQ]
 by_cases hn:n<0<;>simp only [hn,kk,if_true,if_false,aB7]
 all_goals
  by_cases hp:wr .u64 bp=0
  ·simp only [hp,kk,aB7]
   grind
  ·simp only [hp,kk,aB7,ne_eq,not_false_eq_true]
   grind
theorem bEa (n bp:Int) (S:St) (K:KW):C 217 [.int .i64 n,.int .i64 bp] S K=K (fZ (cD n bp)) S:=by
 refine (bLs rfl ?_).eq S K
 simp only [aTn,kk,bNi,fZ,oo]
theorem bAc:(fun (a b c:Int)=>kZ Tryz.f255 [.int .u64 a,.int .u64 b,.int .u64 c])=fun a b c=>
  bif decide (0≤a)&&decide (0≤b)&&decide (0≤c)&&decide (c≤1) then .ok (.tup [.int .u64 ((a+b+c) % 18446744073709551616),.int .u64 ((a+b+c) / 18446744073709551616)]) else .error "Add64":=by kernel_rfl
theorem aKz {a b c:Int} (ha:0≤a) (hb:0≤b) (hc:0≤c) (hc1:c≤1):kZ Tryz.f255 [.int .u64 a,.int .u64 b,.int .u64 c]=.ok (.tup [.int .u64 ((a+b+c) % 18446744073709551616),.int .u64 ((a+b+c) / 18446744073709551616)]):=by
 refine (congrFun (congrFun (congrFun bAc a) b) c).trans ?_
 simp only [ha,hb,hc,hc1,decide_true,Bool.and_self,cond_true]
theorem aMw (P:Program) (t:TypeId) (a:Int):aH P .shr t (.int .u64 a) (.int .u64 63)=.ok (.int .u64 (a.fdiv (2 ^ 63))):=rfl
theorem bNj (l:List Int) (hb:l.length<1000000) (S:St) (K:KW):C 218 [.imm (l.map gX)] S K=K (.tup [.int .i64 (gY l).1,.bool (gY l).2]) S:=by
 refine (bLu rfl ?_).eq S K
 simp only [aTp,kk]
 refine aY l (step:=rQ) (fin:=qM) (fun i st vs S=>vs=[.int .u64 st.1,.int .u64 st.2,.int .i64 (i:Int)]∧0≤st.1∧st.1<18446744073709551616∧0≤st.2∧st.2<18446744073709551616) (fun r=>V.tup [.int .i64 r.1,.bool r.2]=.tup [.int .i64 (gY l).1,.bool (gY l).2])
  ?_ ?_ (s:=(0,0)) ⟨rfl,by decide,by decide,by decide,by decide⟩ rfl
 ·rintro i n ⟨h,lo⟩ vs S hi ⟨rfl,r1,r2,r3,r4⟩ aO H
  have hr:=aMs n
  have hil:=(List.getElem?_eq_some_iff.1 hi).1
  simp only at r1 r2 r3 r4
  have hc1:(lo+wr .u64 n+0) / 18446744073709551616≤1:=by omega
  have hc0:0≤(lo+wr .u64 n+0) / 18446744073709551616:=by omega
  have hI:=H [.int .u64 ((h+(if n<0 then 18446744073709551615 else 0)+(lo+wr .u64 n+0) / 18446744073709551616) % 18446744073709551616),.int .u64 ((lo+wr .u64 n+0) % 18446744073709551616),.int .i64 ((i+1:Nat):Int)] S ⟨rfl,by simp only;omega,by simp only;omega,by simp only;omega,by simp only;omega⟩
  simp only [aF9,aF8,kk,dF hi,bE8 hi,gX,unK,bE2]
  by_cases hn:n<0
  ·simp only [hn,kk,if_true,aKz (c:=0) r3 hr.1 (by decide) (by decide),aKz r1 (show (0:Int)≤18446744073709551615 by decide) hc0 hc1,nH (show i<1000000000 by omega)] at hI ⊢
   exact hI
  ·simp only [hn,kk,if_false,aKz (c:=0) r3 hr.1 (by decide) (by decide),aKz r1 (show (0:Int)≤0 by decide) hc0 hc1,nH (show i<1000000000 by omega)] at hI ⊢
   exact hI
 ·rintro ⟨h,lo⟩ vs S ⟨rfl,r1,r2,r3,r4⟩ aO H
  simp only [aF9,kk,Int.lt_irrefl,aMw,qM,oo] at H ⊢
  by_cases c:lo.fdiv (2 ^ 63)=0<;>simp only [c,kk,if_true,if_false] at H ⊢<;>exact H
theorem bNk (r:Int) (S:St) (K:KW):C 225 [.int .i32 r] S K=K (.bool (vE r)) S:=by
 refine (bM0 rfl ?_).eq S K
 simp only [aTv,zY,aFb,kk,vE]
 grind
theorem aWb (s:List UInt8) (a pos:Nat) (S:St) (hg:S.heap.get a=some (.iter s pos)) (hl:pos<s.length):
  qE (.ptr a 0 0 0) S=.ok (.tup [.bool true,.int .i64 pos,.int .i32 (Utf8.decode ⟨⟨s⟩⟩ pos).1],⟨S.next,S.heap.put a (.iter s (pos+(Utf8.decode ⟨⟨s⟩⟩ pos).2))⟩):=by
 have hb:Nat.blt pos s.length=true:=Nat.ble_eq_true_of_le hl
 have hs:s[pos]?=some s[pos]:=List.getElem?_eq_getElem hl
 simp only [qE,hg,hb,hs]
 split
 ·rename_i h
  rw [Go.AM.decode_ascii hs (by simpa using h)]
 ·rfl
theorem aHl (s:List UInt8) (a pos:Nat) (S:St) (hg:S.heap.get a=some (.iter s pos)) (hl:s.length≤pos):qE (.ptr a 0 0 0) S=.ok (.tup [.bool false],S):=by
 have hb:Nat.blt pos s.length=false:=by
  cases h:Nat.blt pos s.length with
  | false=>rfl
  | true=>exact absurd (Nat.le_of_ble_eq_true h) (by omega)
 simp only [qE,hg,hb]
def IterAt (s:List UInt8) (i:Nat) (S:St):Prop:=∃ pos f,S.heap.get 0=some (.iter s pos)∧(mP s s.length 0).drop i=mP s f pos∧s.length≤f+pos
theorem IterAt.next {s:List UInt8} {i:Nat} {S:St} (h:IterAt s i S) {q r:Nat} (hi:(mP s s.length 0)[i]?=some (q,r)):∃ S',qE (.ptr 0 0 0 0) S=.ok (.tup [.bool true,.int .i64 q,.int .i32 r],S')∧IterAt s (i+1) S':=by
 obtain ⟨pos,f,hg,hd,hf⟩:=h
 have hd0:=congrArg (·[0]?) hd
 simp only [List.getElem?_drop,Nat.add_zero,hi] at hd0
 cases f with
 | zero=>simp [mP] at hd0
 | succ f=>
  have hl:pos<s.length:=by
   by_cases hl:pos<s.length
   ·exact hl
   ·simp [mP,hl] at hd0
  have hd2:mP s (f+1) pos=(pos,(Utf8.decode ⟨⟨s⟩⟩ pos).1)::mP s f (pos+(Utf8.decode ⟨⟨s⟩⟩ pos).2):=by simp only [mP,hl,if_true]
  rw [hd2] at hd0 hd
  simp only [List.getElem?_cons_zero,Option.some.injEq,Prod.mk.injEq] at hd0
  obtain ⟨rfl,rfl⟩:=hd0
  have hw:=aHe ⟨⟨s⟩⟩ q
  exact ⟨_,aWb s 0 q S hg hl,_,f,Tr.get_put_sameB _ _ _ trivial,by rw [←List.drop_drop,hd];rfl,by omega⟩
theorem IterAt.last {s:List UInt8} {S:St} (h:IterAt s (mP s s.length 0).length S):qE (.ptr 0 0 0 0) S=.ok (.tup [.bool false],S):=by
 obtain ⟨pos,f,hg,hd,hf⟩:=h
 rw [List.drop_length] at hd
 cases f with
 | zero=>exact aHl s 0 pos S hg (by omega)
 | succ f=>
  by_cases hl:pos<s.length
  ·simp [mP,hl] at hd
  ·exact aHl s 0 pos S hg (by omega)
theorem aHm (s:List UInt8):wQ (.str s) none ⟨0,.nil⟩=.ok (.ptr 0 0 0 0,⟨1,Tr.nil.put 0 (.iter s 0)⟩)∧IterAt s 0 ⟨1,Tr.nil.put 0 (.iter s 0)⟩:=⟨rfl,0,s.length,Tr.get_put_sameB _ _ _ trivial,rfl,by omega⟩
theorem aPa (s:List UInt8) (S:St) (K:KW):C 165 [.str s] S K=K (.bool (eJ s)) S:=by
 refine (bKl rfl ?_).eq S K
 simp only [aSj,kk,(aHm s).1,eJ]
 by_cases h1:s.length<1
 ·rw [if_pos (by omega)];simp [h1]
 by_cases h2:24<s.length
 ·rw [if_neg (by omega),if_pos (by omega)];simp [h1,h2]
 rw [if_neg (by omega),if_neg (by omega)]
 simp only [h1,h2,kk]
 refine aY (mP s s.length 0) (step:=vF) (fin:=fun _=>true) (fun i _ vs S=>vs=[.bool false]∧IterAt s i S) (fun r=>V.bool r=.bool (aS vF (fun _=>true) (mP s s.length 0) ())) ?_ ?_ (s:=()) ⟨rfl,(aHm s).2⟩ rfl
 ·rintro i ⟨q,r⟩ _ vs S hi ⟨rfl,hI⟩ aO H
  obtain ⟨S',e,hI'⟩:=hI.next hi
  simp only [aEw,kk,e,bNk]
  simp only [vF] at H
  have H1:=fun h:vE (r:Int)=true=>(by simpa only [h,if_true] using H:∀ vs' S',vs'=[.bool false]∧IterAt s (i+1) S'→aO vs' S') [.bool false] S' ⟨rfl,hI'⟩
  by_cases c1:vE (r:Int)=true
  ·simp only [c1,if_true];exact H1 c1
  ·simp only [c1,if_false] at H ⊢
   by_cases c2:q=0
   ·subst c2;simp at H ⊢;exact H
   ·have c2':¬ (q:Int)=0:=by omega
    simp only [c2,c2',if_false] at H ⊢
    by_cases c3:(48≤r∧r≤57)∨r=45∨r=95∨r=46
    ·simp only [c3,if_true] at H
     have h0:=H [.bool false] S' ⟨rfl,hI'⟩
     grind
    ·simp only [c3,if_false] at H
     grind
 ·rintro _ vs S ⟨rfl,hI⟩ aO H
  simp only [aEw,kk,hI.last]
  exact H
theorem bEb (r:Rate) (S:St) (K:KW):C 163 [.agg [.str r.cat,.int .i64 r.day.y,.int .i64 r.day.m,.int .i64 r.day.d,.int .i64 r.bp]] S K=K (.int .i64 (tF r)) S:=by
 refine (bKh rfl ?_).eq S K
 simp only [aSf,kk,aPa,zH,tF]
 cases eJ r.cat<;>cases r.day.right<;>simp
 grind
theorem bEc (a b:Rate) (S:St) (K:KW):C 164 [.agg [.str a.cat,.int .i64 a.day.y,.int .i64 a.day.m,.int .i64 a.day.d,.int .i64 a.bp],.agg [.str b.cat,.int .i64 b.day.y,.int .i64 b.day.m,.int .i64 b.day.d,.int .i64 b.bp]] S K=K (.bool (fJ a b)) S:=by
 refine (bKj rfl ?_).eq S K
 simp only [aSh,kk,aP8,iL,fJ]
 cases fF a.cat b.cat<;>cases (a.cat == b.cat)<;>simp
theorem g85 (l:List Rate) (S:St) (K:KW):C 85 [.imm (l.map Rate.enc)] S K=K (.bool (fU l)) S:=by
 refine (v85 rfl ?_).eq S K
 simp only [m85,kk,fU]
 by_cases h:24<l.length
 ·rw [if_pos (by omega),if_pos h]
 have h':¬ (24:Int)<(l.length:Int):=by omega
 simp only [h,h',kk]
 refine aY l (step:=iH) (fin:=fun _=>true) (fun i s vs S=>s=fV l i∧vs=[.bool false,.int .i64 (i:Int)]) (fun r=>V.bool r=.bool (aS iH (fun _=>true) l none)) ?_ ?_ ⟨rfl,rfl⟩ rfl
 ·rintro i r s vs S hi ⟨rfl,rfl⟩ aO H
  have hil:=(List.getElem?_eq_some_iff.1 hi).1
  have hn:fV l (i+1)=some r:=by simpa [fV] using hi
  simp only [hn] at H
  simp only [aJa,kk,dF hi,aFu hi,Rate.enc,bEb,nH (show i<1000000000 by omega),iH] at H ⊢
  by_cases c:tF r=0
  ·simp only [c,kk,ne_eq,not_true_eq_false] at H ⊢
   cases i with
   | zero=>simp [fV] at H ⊢;exact H _ _ rfl
   | succ j=>
    have hj:l[j]?=some l[j]:=List.getElem?_eq_getElem (by omega)
    have hp:fV l (j+1)=some l[j]:=by simp [fV,hj]
    simp only [hp,gt0,kk,wrm (show j+1<1000000000 by omega),aFu hj,Rate.enc,bEc] at H ⊢
    cases ha:fJ l[j] r<;>simp [ha] at H ⊢<;>first | exact H | exact H _ _ rfl
  ·simp [c] at H ⊢
   exact H
 ·rintro s vs S ⟨rfl,rfl⟩ aO H
  simp only [aJa,kk,Int.lt_irrefl]
  exact H
end Go.Proofs.YtoaibmbldmckaaaGreat
end
section
namespace Go.AM
theorem rS (P:Program) (C:aD) (g:FuncId) (a b args:List V) (S:St) (K:KW) (h:gO P g=some none):aEf P C (.func g a b) args S K=C g (a++args++b) S K:=by simp only [aEf,aEe,h];rfl
theorem Own.frz {S0 S:St} {n:Nat} {v:V} {es:List (List V)} (h:Own S0 S n v es) (hc:es.all cloVs=true):dK mF (pO (kU S 3) S) v=.ok (.imm es):=by
 rcases h.is with ⟨rfl,rfl⟩ | ⟨a,ver,tl,rfl,_,_,q⟩
 ·rfl
 ·have he:bU S (.sl a ver n 0 es.length)=.ok es:=h.sl.elems
  simp only [dK,pO,he,(nO (S:=S) (n:=2) hc).1]
theorem Own.ptrs {S0 S:St} {n:Nat} {v:V} {es:List (List V)} (h:Own S0 S n v es):pU v=[]:=by
 rcases h.is with ⟨rfl,rfl⟩ | ⟨a,ver,tl,rfl,_,_,q⟩<;>rfl
theorem dQ {α:Type} {enc:α→List V} (h:∀ x,cloVs (enc x)=true) (l:List α):(l.map enc).all cloVs=true:=by
 rw [List.all_eq_true]
 intro y hy
 obtain ⟨x,_,rfl⟩:=List.mem_map.1 hy
 exact h x
theorem Sl.imm {n:Nat} {es:List (List V)} (S:St) (h:∀ cs,cs∈es→cs.length=n∧aN cs=true):Sl S n (.imm es) es:=⟨.inr (.inl rfl),h⟩
abbrev E0:St:=⟨0,.nil⟩
theorem pK:WF E0:=fun a b h=>by cases h
theorem aPb {α:Type} {enc:α→List V} {n b:Nat} (hl:∀ x,(enc x).length=n∧aN (enc x)=true) (l:List α) {S:St} (w:WF S) (h1:l.length*b≤35184372088832) (h2:l.length<fE):
  ∃ v S',dG n b .nils (.imm (l.map enc)) none S=.ok (v,S')∧Ext S S'∧Own E0 S' n v (l.map enc):=by
 obtain ⟨v,S',q1,q2,q3⟩:=(Sl.imm (n:=n) (es:=l.map enc) S (fun cs hc=>by obtain ⟨x,_,rfl⟩:=List.mem_map.1 hc;exact hl x)).copy (b:=b) w (by rw [List.length_map];exact h1) (by rw [List.length_map];exact h2)
 exact ⟨v,S',q1,q2,q3.weaken (Nat.zero_le _)⟩
theorem aL0 {α:Type} {enc:α→List V} {n b:Nat} (hl:∀ x,(enc x).length=n∧aN (enc x)=true) (l:List α) {S:St} (w:WF S) (h1:l.length*b≤35184372088832) (h2:l.length<fE):
  ∃ v S',dG n b .nils (.imm (l.map enc)) none S=.ok (v,S')∧Ext S S'∧Own S S' n v (l.map enc):=
 (Sl.imm (n:=n) (es:=l.map enc) S (fun cs hc=>by obtain ⟨x,_,rfl⟩:=List.mem_map.1 hc;exact hl x)).copy (b:=b) w (by rw [List.length_map];exact h1) (by rw [List.length_map];exact h2)
theorem aCb {S:St} (w:WF S):Ext E0 S:=⟨fun a b h=>(by cases h),Nat.zero_le _,fun _=>w⟩
theorem Pt.fn {l:V} {f:FuncId} (hl:wW l=true):Pt fun a=>[l,.func f [] [.ptr a 0 0 0]]:=Pt.next hl (Pt.func rfl)
end Go.AM
namespace Go.Proofs.YtoaibmbldmckaaaGreat
open Go.AM Tryz
set_option linter.unusedVariables false
set_option linter.unusedSimpArgs false
set_option maxRecDepth 100000
theorem bNl (fk:Nat) (ht:gO prog fk=some none) {n:Nat} {cap:List V} (hcap:cloVs cap=true) (p:Sess→Bool) (hf:∀ s:Sess,Fr fk (fun a=>[.agg s.enc,.ptr a 0 0 0]) n cap (.bool (p s)) cap) (l:List Sess) (hb:l.length<1000000):
  Fr 231 (fun a=>[.imm (l.map Sess.enc),.func fk [] [.ptr a 0 0 0]]) n cap (.int .i64 (ixM p l)) cap:=by
 refine FnR.of bDr (lv:=bE 231) (Pt.fn rfl) (by simp [hcap]) ?_ rfl (by simp [hcap])
 rw [bM8]
 simp only [aYf,kk]
 refine aY l (step:=eQ p) (fin:=fun _=>-1) (fun i k vs S=>k=i∧vs=[.int .i64 0,.int .i64 (i:Int)]∧S.heap.get 0=some (.row 0 n [cap])) (fun r=>r=ixM p l) ?_ ?_ ⟨rfl,rfl,Tr.get_put_sameB _ _ _ trivial⟩ rfl
 ·rintro i s k vs S hi ⟨rfl,rfl,hg⟩ aO H
  have hil:=(List.getElem?_eq_some_iff.1 hi).1
  have he:=(hf s).eq_same hg
  simp only [Sess.enc] at he
  simp only [aFe,kk,dF hi,aBf hi,Sess.enc,rS _ _ _ _ _ _ _ _ ht,List.nil_append,List.cons_append,he,nH (show k<1000000000 by omega)]
  simp only [eQ] at H
  cases hp:p s<;>simp only [hp,kk] at H ⊢
  ·exact H _ _ ⟨rfl,rfl,hg⟩
  ·exact ⟨by rw [H],hg⟩
 ·rintro k vs S ⟨rfl,rfl,hg⟩ aO H
  simp only [aFe,kk,Int.lt_irrefl]
  exact ⟨by rw [H],hg⟩
theorem bEd (fk:Nat) (ht:gO prog fk=some none) {n:Nat} {cap:List V} (hcap:cloVs cap=true) (p:Ser→Bool) (hf:∀ s:Ser,Fr fk (fun a=>[.agg s.enc,.ptr a 0 0 0]) n cap (.bool (p s)) cap) (l:List Ser) (hb:l.length<1000000):
  Fr 152 (fun a=>[.imm (l.map Ser.enc),.func fk [] [.ptr a 0 0 0]]) n cap (.int .i64 (ixM p l)) cap:=by
 refine FnR.of bDj (lv:=bE 152) (Pt.fn rfl) (by simp [hcap]) ?_ rfl (by simp [hcap])
 rw [bKa]
 simp only [aYb,kk]
 refine aY l (step:=eQ p) (fin:=fun _=>-1) (fun i k vs S=>k=i∧vs=[.int .i64 0,.int .i64 (i:Int)]∧S.heap.get 0=some (.row 0 n [cap])) (fun r=>r=ixM p l) ?_ ?_ ⟨rfl,rfl,Tr.get_put_sameB _ _ _ trivial⟩ rfl
 ·rintro i s k vs S hi ⟨rfl,rfl,hg⟩ aO H
  have hil:=(List.getElem?_eq_some_iff.1 hi).1
  have he:=(hf s).eq_same hg
  simp only [Ser.enc] at he
  simp only [aEr,kk,dF hi,yO hi,Ser.enc,rS _ _ _ _ _ _ _ _ ht,List.nil_append,List.cons_append,he,nH (show k<1000000000 by omega)]
  simp only [eQ] at H
  cases hp:p s<;>simp only [hp,kk] at H ⊢
  ·exact H _ _ ⟨rfl,rfl,hg⟩
  ·exact ⟨by rw [H],hg⟩
 ·rintro k vs S ⟨rfl,rfl,hg⟩ aO H
  simp only [aEr,kk,Int.lt_irrefl]
  exact ⟨by rw [H],hg⟩
theorem bEe:gO prog 232=some none:=by kernel_rfl
theorem bNm (id:Int) (s:Sess):Fr 232 (fun a=>[.agg s.enc,.ptr a 0 0 0]) 1 [.int .i64 id] (.bool (decide (s.id=id))) [.int .i64 id]:=by
 refine FnR.of bDs (lv:=bE 232) (Pt.next rfl (Pt.head rfl)) rfl ?_ rfl rfl
 rw [bM9]
 simp only [aYg,kk,Sess.enc,iL]
 rfl
theorem bEf (l:List Sess) (id:Int) (hb:l.length<1000000):Fv 174 [.imm (l.map Sess.enc),.int .i64 id] (.int .i64 (gK l id)):=by
 refine bKy rfl ?_
 have h:=(bNl 232 bEe rfl _ (bNm id) l hb).eq_same (S:=⟨1,Tr.nil.put 0 (.row 0 1 [[.int .i64 id]])⟩) (a:=0) (Tr.get_put_sameB _ _ _ trivial)
 simp only [aSw,kk,h,gK]
theorem bAd (l:List Sess) (id:Int) (hb:l.length<1000000) (S:St) (K:KW):C 174 [.imm (l.map Sess.enc),.int .i64 id] S K=K (.int .i64 (gK l id)) S:=(bEf l id hb).eq S K
theorem aWc (l:List Sess) (S:St) (K:KW):C 166 [.imm (l.map Sess.enc)] S K=K (.bool (gA l)) S:=by
 refine (bKn rfl ?_).eq S K
 simp only [aSl,kk,gA]
 by_cases h:8<l.length
 ·rw [if_pos (by omega),if_pos h]
 have h':¬ (8:Int)<(l.length:Int):=by omega
 simp only [h,h',kk]
 refine aY l (step:=iT) (fin:=fun _=>true) (fun i s vs S=>vs=[.bool false,.int .i64 s,.int .i64 (i:Int)]) (fun r=>V.bool r=.bool (aS iT (fun _=>true) l 0)) ?_ ?_ rfl rfl
 ·rintro i s last vs S hi rfl aO H
  have hil:=(List.getElem?_eq_some_iff.1 hi).1
  have hn:((s.reply=Rep.zero):Prop)=((s.reply.why=0∧s.reply.number=0)∧s.reply.gross=0):=by
   obtain ⟨_,_,⟨_,_,_⟩⟩:=s;simp [Rep.zero,and_assoc]
  simp only [iT,hn,kk] at H
  simp only [aEx,kk,dF hi,aBf hi,Sess.enc,nH (show i<1000000000 by omega)]
  grind
 ·rintro s vs S rfl aO H
  simp only [aEx,kk,Int.lt_irrefl]
  exact H
end Go.Proofs.YtoaibmbldmckaaaGreat
end
section
namespace Go.AM
theorem bsl (n:Nat) (z:List V) (parts:List (Nat×V)) (fr:Option Nat) (S:St) (hn:n≤1000):aQ n z 1 parts fr S=(match rV n [z] parts with
  | .error e=>.error e
  | .ok elems=>match aJ fr S (.row 0 n elems) with
   | .error e=>.error e
   | .ok (a,S')=>.ok (.sl a 0 n 0 1,S')):=by
 unfold aQ
 rw [if_pos (by omega)]
 rfl
theorem bNn (z:List V) (parts:List (Nat×V)) (fr:Option Nat) (S:St):type_of% (bsl 1 z parts fr S (by decide)):=bsl 1 z parts fr S (by decide)
theorem bEg (z:List V) (parts:List (Nat×V)) (fr:Option Nat) (S:St):type_of% (bsl 2 z parts fr S (by decide)):=bsl 2 z parts fr S (by decide)
theorem aPc (z:List V) (parts:List (Nat×V)) (fr:Option Nat) (S:St):type_of% (bsl 4 z parts fr S (by decide)):=bsl 4 z parts fr S (by decide)
theorem bEh (z:List V) (parts:List (Nat×V)) (fr:Option Nat) (S:St):type_of% (bsl 5 z parts fr S (by decide)):=bsl 5 z parts fr S (by decide)
theorem aX5 (z:List V) (parts:List (Nat×V)) (fr:Option Nat) (S:St):type_of% (bsl 12 z parts fr S (by decide)):=bsl 12 z parts fr S (by decide)
theorem kS {n m k:Nat} {h:Tr Blk} {b:Blk} (w:WF ⟨n,h⟩) (h1:k<m) (h2:n≤m):WF ⟨m,h.put k b⟩:=by
 intro a c hc
 have hc':(h.put k b).get a=some c:=hc
 rw [Tr.get_putB _ _ _ _ trivial] at hc'
 split at hc'
 ·show a<m;omega
 ·have:=w a c hc';show a<m;have:a<n:=this;omega
theorem WF.bump {S:St} (w:WF S) (c:Nat):WF ⟨S.next+c,S.heap⟩:=fun a b h=>Nat.lt_of_lt_of_le (w a b h) (Nat.le_add_right _ _)
theorem vR {S:St} {a ver n:Nat} {el:List (List V)} (h:aI S a ver=.ok (n,el)):S.heap.get a=some (.row ver n el):=by
 unfold aI at h
 split at h
 ·rename_i v es els he
  rw [cond_eq_ite] at h
  split at h
  ·rename_i hv
   have:=Nat.eq_of_beq_eq_true hv
   cases h
   rw [he,this]
  ·cases h
 ·cases h
theorem bI {S S':St} {a ver n:Nat} {el:List (List V)} (hg:aI S a ver=.ok (n,el)) (h:S'.heap.get a=S.heap.get a):aI S' a ver=.ok (n,el):=by
 rw [←hg];unfold aI;rw [h]
theorem aX6 {P:Program} {T:TypeId} {n b:Nat} (hT:apT P T=some (n,b)) (hn:1<n) {S:St} {v:V} {es:List (List V)} (h:Own E0 S n v es) (w:WF S) {c:List V} (hc:c.length=n∧aN c=true) (h1:(es.length+1)*b≤35184372088832) (h2:es.length+1<fE) {i:Nat} (hi:i≤es.length):
  ∃ v' S',fY P T v (.int .i64 (i:Int)) (.sl S.next 0 n 0 1) ⟨S.next+1,S.heap.put S.next (.row 0 n [c])⟩=.ok (v',S')∧WF S'∧Own E0 S' n v' (es.take i++c::es.drop i)∧∀ y,y<S.next→(∀ a ver m,v=.sl a ver n 0 m→y≠a)→S'.heap.get y=S.heap.get y:=by
 have x:Ext S ⟨S.next+1,S.heap.put S.next (.row 0 n [c])⟩:=Ext.new w _
 obtain ⟨v',S',q1,q2,q3,q4⟩:=(h.ext x).insertK hT hn (aCb (x.wf w)) pK (bx:=S.next) (c:=c) (aR _ _ _ _ _ _) (fun a ver m hv=>by
  rcases h.is with ⟨rfl,_⟩ | ⟨a',ver',tl,rfl,_,hlt,_⟩
  ·cases hv
  ·cases hv;omega) hc h1 h2 hi
 refine ⟨v',S',q1,q2.wf pK,q3,fun y hy hya=>?_⟩
 rw [q4 y (by show y<S.next+1;omega) hya]
 exact Tr.get_put_neB _ _ _ _ trivial (by omega)
theorem bEi {P:Program} {T:TypeId} {n b:Nat} (hT:apT P T=some (n,b)) (hn:1<n) {S:St} {v:V} {es:List (List V)} (h:Own E0 S n v es) (w:WF S) {c:List V} (hc:c.length=n∧aN c=true) (h1:(es.length+1)*b≤35184372088832) (h2:es.length+1<fE) {i:Nat} (hi:i≤es.length):
  ∃ v' S',fY P T v (.int .i64 (i:Int)) (.sl S.next 0 n 0 1) ⟨S.next+1,S.heap.put S.next (.row 0 n [c])⟩=.ok (v',S')∧WF S'∧Own E0 S' n v' (es.take i++c::es.drop i):=by
 obtain ⟨v',S',q1,q2,q3,_⟩:=aX6 hT hn h w hc h1 h2 hi
 exact ⟨v',S',q1,q2,q3⟩
end Go.AM
namespace Go.Proofs.YtoaibmbldmckaaaGreat
open Go.AM Tryz
set_option linter.unusedVariables false
set_option linter.unusedSimpArgs false
set_option maxRecDepth 100000
theorem aMx {f:FuncId} {T:TypeId} (hpl:tX f=some (.spec ((Sp.ins T).run prog))) {s i x v:V} {S S':St} (h:fY prog T s i x S=.ok (v,S')) (K:KW):C f [s,i,x] S K=K v S':=aOk hpl (args:=[s,i,x]) (show (Sp.ins T).run prog [s,i,x] S=.ok (v,S') from h) K
theorem bNo {f:FuncId} {T:TypeId} (hpl:tX f=some (.spec ((Sp.del T).run prog))) {s i x v:V} {S S':St} (h:oK prog T s i x S=.ok (v,S')) (K:KW):C f [s,i,x] S K=K v S':=aOk hpl (args:=[s,i,x]) (show (Sp.del T).run prog [s,i,x] S=.ok (v,S') from h) K
theorem bNp:apT prog 28=some (5,40):=by kernel_rfl
theorem bNq:apT prog 25=some (4,40):=by kernel_rfl
theorem bEj:tX 230=some (.spec ((Sp.ins 28).run prog)):=by kernel_rfl
theorem bEk:tX 234=some (.spec ((Sp.ins 25).run prog)):=by kernel_rfl
theorem bEl:tX 240=some (.spec ((Sp.del 28).run prog)):=by kernel_rfl
theorem aHn (x:Sess):x.enc.length=5∧aN x.enc=true:=⟨rfl,rfl⟩
theorem aPd (x:Ser):x.enc.length=4∧aN x.enc=true:=⟨rfl,rfl⟩
theorem bEm (l:List Sess) (id seq:Int) (S:St) (K:KW):C 105 [.imm (l.map Sess.enc),.int .i64 id,.int .i64 seq] S K=K (.tup [.agg [.int .i64 (cJ l id seq).1.why,.int .i64 (cJ l id seq).1.number,.int .i64 (cJ l id seq).1.gross],.bool (cJ l id seq).2.1,.int .i64 (cJ l id seq).2.2]) S:=by
 refine (bJp rfl ?_).eq S K
 simp only [aRn,aEo,kk,aWc]
 by_cases hr:gA l=true
 ·have hb:=lL hr
  simp only [hr,kk,bAd l id (show l.length<1000000 by omega),cJ,Bool.true_eq_false,if_false]
  rcases iU l id with h | ⟨i,s,h,h2,h3⟩
  ·simp only [h,show (-1:Int)<0 by decide,kk,oo,Rep.zero,if_true]
  ·simp only [h,show ¬ (i:Int)<0 by omega,kk,if_false,aBf h2,Sess.enc,Int.toNat_natCast,h2]
   by_cases c1:seq<1
   ·simp only [c1,kk,oo,Rep.zero,true_or,if_true]
   ·by_cases c2:1099511627776<seq
    ·simp only [c1,c2,kk,oo,Rep.zero,or_true,if_true,if_false,decide_true]
    ·simp only [c1,c2,kk,oo,or_self,if_false,decide_false]
     by_cases c3:seq=s.last
     ·simp only [c3,kk,oo,if_true]
     ·by_cases c4:seq<s.last<;>simp only [c3,c4,kk,oo,Rep.zero,if_true,if_false]
 ·have hr:gA l=false:=by simpa using hr
  simp only [hr,kk,oo,cJ,Rep.zero,if_true]
theorem bEn (l:List Sess) (n:Int) (S:St) (K:KW):C 173 [.imm (l.map Sess.enc),.int .i64 n] S K=K (.tup [.imm ((mQ l n).1.map Sess.enc),.int .i64 (mQ l n).2]) S:=by
 refine (bKw rfl ?_).eq S K
 simp only [aSu,aF1,kk,aWc]
 by_cases hr:gA l=true
 ·have hb:=lL hr
  simp only [hr,kk,bAd l n (show l.length<1000000 by omega),mQ,Bool.true_eq_false,false_or]
  by_cases c1:n<1
  ·simp only [c1,kk,oo,if_true,List.map_nil]
  ·simp only [c1,kk,if_false]
   by_cases c2:0≤gK l n
   ·simp only [c2,kk,oo,if_true,List.map_nil]
   ·by_cases c3:8≤l.length
    ·simp only [c2,c3,show (8:Int)≤(l.length:Int) by omega,kk,oo,if_true,if_false,List.map_nil]
    ·simp only [c2,c3,show ¬ (8:Int)≤(l.length:Int) by omega,kk,if_false]
     have hj:∀ k:Nat,k=kR (fun s:Sess=>decide (s.id<n)) l→zW C (fun v0 S0=>bZ S0 v0=Except.ok (.tup [.imm ((eY l (kR (fun s:Sess=>decide (s.id<n)) l) ⟨n,0,Rep.zero⟩).map Sess.enc),.int .i64 0])) (.imm (l.map Sess.enc)) (.int .i64 n) (.int .i64 (k:Int)) ⟨0,.nil⟩:=by
      intro k hk
      obtain ⟨v,S1,q1,x1,own⟩:=aPb (b:=40) aHn l pK (by omega) (by unfold fE;omega)
      have w1:=x1.wf pK
      have hkl:k≤l.length:=by rw [hk];exact vG _ _
      obtain ⟨v2,S2,q2,w2,own2⟩:=bEi bNp (by decide) own w1 (aHn ⟨n,0,Rep.zero⟩) (by simp;omega) (by simp [fE];omega) (i:=k) (by simpa using hkl)
      simp only [Sess.enc,Rep.zero] at q2
      simp only [zW,kk,q1,bEh]
      rw [aMx bEj q2]
      rw [←lM] at own2
      simp only [oo,own2.frz (dQ (fun _=>rfl) _),hk]
     refine aY l (step:=eK (fun s:Sess=>decide (s.id<n))) (fin:=id) (fun i k vs S=>k=i∧vs=[.int .i64 (i:Int)]∧S=⟨0,.nil⟩) (fun r=>r=kR (fun s:Sess=>decide (s.id<n)) l) ?_ ?_ ⟨rfl,rfl,rfl⟩ rfl
     ·rintro i s k vs S hi ⟨rfl,rfl,rfl⟩ aO H
      have hil:=(List.getElem?_eq_some_iff.1 hi).1
      simp only [eK] at H
      simp only [aF0,kk,dF hi,aBf hi,Sess.enc,nH (show k<1000000000 by omega)]
      by_cases c:s.id<n<;>simp only [c,kk,if_true,if_false,decide_true,decide_false] at H ⊢
      ·exact H _ _ ⟨rfl,rfl⟩
      ·exact hj _ H
     ·rintro k vs S ⟨rfl,rfl,rfl⟩ aO H
      simp only [aF0,kk,Int.lt_irrefl]
      exact hj _ (by simpa using H)
 ·have hr:gA l=false:=by simpa using hr
  simp only [hr,kk,oo,mQ,true_or,if_true,List.map_nil]
theorem bNr:jC prog 28=some 132:=by kernel_rfl
theorem bEo:rA prog 132=some [.int .i64 0,.int .i64 0,.int .i64 0,.int .i64 0,.int .i64 0]:=by kernel_rfl
theorem bEp:sz prog 132=5:=by kernel_rfl
theorem bNs (l:List Sess) (id:Int) (S:St) (K:KW):C 182 [.imm (l.map Sess.enc),.int .i64 id] S K=K (.tup [.imm ((fW l id).1.map Sess.enc),.int .i64 (fW l id).2]) S:=by
 refine (bLe rfl ?_).eq S K
 simp only [aTa,kk,aWc]
 by_cases hr:gA l=true
 ·have hb:=lL hr
  simp only [hr,kk,bAd l id (show l.length<1000000 by omega),fW,Bool.true_eq_false]
  rcases iU l id with h | ⟨i,s,h,h2,h3⟩
  ·simp only [h,show (-1:Int)<0 by decide,kk,oo,if_true,List.map_nil]
  ·have hil:=(List.getElem?_eq_some_iff.1 h2).1
   obtain ⟨v,S1,q1,x1,own⟩:=aPb (b:=40) aHn l pK (by omega) (by unfold fE;omega)
   obtain ⟨v2,S2,q2,x2,own2⟩:=own.delete bNr bEo bEp (aCb (x1.wf pK)) pK (by simp [fE];omega) (i:=i) (by simpa using hil)
   rw [←aJl] at own2
   simp only [h,show ¬ (i:Int)<0 by omega,kk,if_false,q1,qH (show -9223372036854775808≤(i:Int)+1 by omega) (show (i:Int)+1≤9223372036854775807 by omega),Int.toNat_natCast]
   rw [bNo bEl q2]
   simp only [oo,own2.frz (dQ (fun _=>rfl) _)]
 ·have hr:gA l=false:=by simpa using hr
  simp only [hr,kk,oo,fW,if_true,List.map_nil]
theorem bNt (l:List Sess) (id seq:Int) (r:Rep) (S:St) (K:KW):C 107 [.imm (l.map Sess.enc),.int .i64 id,.int .i64 seq,.agg [.int .i64 r.why,.int .i64 r.number,.int .i64 r.gross]] S K=K (.tup [.imm ((jE l id seq r).1.map Sess.enc),.int .i64 (jE l id seq r).2]) S:=by
 refine (bJt rfl ?_).eq S K
 simp only [aRr,kk,bEm,jE]
 by_cases h0:(cJ l id seq).2.2=0
 ·simp only [h0,kk,not_true_eq_false,if_false]
  by_cases h1:(cJ l id seq).2.1=true
  ·simp only [h1,kk,oo,if_true,List.map_nil]
  ·obtain ⟨hr,i,s,h2,h3⟩:=aB8 h0
   have hb:=lL hr
   have hil:=(List.getElem?_eq_some_iff.1 h3).1
   simp only [h1,kk,if_false,h2,Int.toNat_natCast,h3]
   obtain ⟨S0,hS0⟩:∃ S0:St,S0=⟨1+1,((Tr.nil.put 0 (Blk.row 0 (1+1+1) [[V.int .i64 r.why,.int .i64 r.number,.int .i64 r.gross]])).put 1 (Blk.row 0 3 [[V.int .i64 0,.int .i64 0,.int .i64 0]])).put 1 (Blk.row 0 3 [[V.int .i64 (cJ l id seq).1.why,.int .i64 (cJ l id seq).1.number,.int .i64 (cJ l id seq).1.gross]])⟩:=⟨_,rfl⟩
   have w0:WF S0:=by rw [hS0];exact kS (n:=2) (kS (n:=1) (m:=2) (kS (m:=1) pK (by decide) (by decide)) (by decide) (by decide)) (by decide) (by decide)
   have hg0:aI S0 0 0=.ok (3,[r.enc]):=by rw [hS0];rfl
   rw [←hS0]
   obtain ⟨v,S1,q1,x1,own⟩:=aL0 (b:=40) aHn l w0 (by omega) (by unfold fE;omega)
   have w1:=x1.wf w0
   have xb:Ext S0 ⟨S1.next+12,S1.heap⟩:=x1.bump 12
   have own':=own.ext ((Ext.refl S1).bump 12)
   have hg1:aI ⟨S1.next+12,S1.heap⟩ 0 0=.ok (3,[r.enc]):=x1.row hg0
   have hb1:S0.next=2:=by rw [hS0]
   obtain ⟨a,ver,e1,e2,e3,e4,_,set1⟩:=own'.setK xb w0 (i:=i) (cs:=s.enc) (by simp [h3]) .i64
   obtain ⟨S2,st1,x2,n2,own2,keep2,w2⟩:=set1 1 1 (.int .i64 seq) rfl rfl (by decide)
   obtain ⟨a',ver',e1',_,_,e4',_,set2⟩:=own2.setK x2 w0 (i:=i) (cs:=splice s.enc 1 [.int .i64 seq]) (by rw [List.getElem?_set_self (by simpa using hil)];rfl) .i64
   obtain ⟨rfl,rfl⟩:a'=a∧ver'=ver:=by rw [e1] at e1';injection e1' with h1 h2;exact ⟨h1.symm,h2.symm⟩
   obtain ⟨S3,mD,_,n3,own3,keep3,w3⟩:=set2 2 3 (.agg r.enc) rfl rfl (by decide)
   have hg2:=bI hg1 (keep2 0 (by omega))
   simp only [Rep.enc] at hg1 hg2 mD
   have hfz:frzVs mF (pO (kU S1 3) S1) [v,.int .i64 id]=.ok [.imm (l.map Sess.enc),.int .i64 id]:=by
    simp only [frzVs,own.frz (dQ (fun _=>rfl) _),dK]
   simp only [q1,kk]
   rw [show C 174 [v,.int .i64 id] S1 _=_ from (bEf l id (by omega)).frz bDo rfl hfz (by simp [ptrsVs,own.ptrs,pU]) (.inl rfl) _]
   have e5:(0:Nat)≠a':=by omega
   have hfin:((l.map Sess.enc).set i (splice s.enc 1 [.int .i64 seq])).set i (splice (splice s.enc 1 [.int .i64 seq]) 2 r.enc)=(l.set i ⟨s.id,seq,r⟩).map Sess.enc:=by
    rw [List.set_set,List.map_set];rfl
   simp only [V.cells] at own3
   rw [hfin] at own3
   have e4'':cP 5 v (.int .i64 (i:Int))=.ok (.ptr a' ver' i 0):=e4
   simp only [h2,e4'',kk,hg1,hg2,st1,mD,oo,own3.frz (dQ (fun _=>rfl) _)]
   simp
 ·simp only [h0,kk,oo,if_true,not_false_eq_true,List.map_nil]
end Go.Proofs.YtoaibmbldmckaaaGreat
end
section
namespace Go.Proofs.YtoaibmbldmckaaaGreat
open Go.AM Tryz
theorem g86 (l:List Ser) (S:St) (K:KW):C 86 [.imm (l.map Ser.enc)] S K=K (.bool (mI l)) S:=by
 refine (v86 rfl ?_).eq S K
 simp only [m86,kk,mI]
 by_cases h:8<l.length
 ·rw [if_pos (by omega),if_pos h]
 have h':¬ (8:Int)<(l.length:Int):=by omega
 simp only [h,h',kk]
 refine aY l (step:=mR) (fin:=fun _=>true) (fun i s vs S=>s=fV l i∧vs=[.bool false,.int .i64 (i:Int)]) (fun r=>V.bool r=.bool (aS mR (fun _=>true) l none)) ?_ ?_ ⟨rfl,rfl⟩ rfl
 ·rintro i r s vs S hi ⟨rfl,rfl⟩ aO H
  have hil:=(List.getElem?_eq_some_iff.1 hi).1
  have hn:fV l (i+1)=some r:=by simpa [fV] using hi
  simp only [hn,mR] at H
  simp only [aJc,aJb,kk,dF hi,yO hi,Ser.enc,aPa,nH (show i<1000000000 by omega)]
  cases hna:eJ r.name
  ·simp [hna] at H ⊢;exact H
  ·simp only [hna,kk,Bool.true_eq_false,if_false] at H ⊢
   cases i with
   | zero=>
    simp only [fV,nR,kk,Bool.false_eq_true,if_false,if_true,qK,Bool.or_eq_true,decide_eq_true_eq] at H ⊢
    simp only [Int.natCast_zero,Int.lt_irrefl,kk,if_false]
    grind
   | succ j=>
    have hj:l[j]?=some l[j]:=List.getElem?_eq_getElem (by omega)
    have hp:fV l (j+1)=some l[j]:=by simp [fV,hj]
    simp only [hp,gt0,kk,wrm (show j+1<1000000000 by omega),yO hj,Ser.enc,nR,qK,Bool.or_eq_true,decide_eq_true_eq] at H ⊢
    grind
 ·rintro s vs S ⟨rfl,rfl⟩ aO H
  simp only [aJc,kk,Int.lt_irrefl]
  exact H
theorem bEq:gO prog 263=some none:=by kernel_rfl
theorem bNv (name:List UInt8) (s:Ser):Fr 263 (fun a=>[.agg s.enc,.ptr a 0 0 0]) 1 [.str name] (.bool (s.name == name)) [.str name]:=by
 refine FnR.of bDu (lv:=bE 263) (Pt.next rfl (Pt.head rfl)) rfl ?_ rfl rfl
 rw [bMr]
 simp only [aYh,kk,Ser.enc,iL]
 rfl
theorem bNw (l:List Ser) (name:List UInt8) (hb:l.length<1000000):Fv 233 [.imm (l.map Ser.enc),.str name] (.int .i64 (hM l name)):=by
 refine bMb rfl ?_
 have h:=(bEd 263 bEq rfl _ (bNv name) l hb).eq_same (S:=⟨1,Tr.nil.put 0 (.row 0 1 [[.str name]])⟩) (a:=0) (Tr.get_put_sameB _ _ _ trivial)
 simp only [aU6,kk,h,hM]
theorem bAe (l:List Ser) (name:List UInt8) (hb:l.length<1000000) (S:St) (K:KW):C 233 [.imm (l.map Ser.enc),.str name] S K=K (.int .i64 (hM l name)) S:=(bNw l name hb).eq S K
theorem bNx (l:List Ser) (name:List UInt8) (hb:l.length<1000000) (S:St) (K:KW):C 241 [.imm (l.map Ser.enc),.str name] S K=K (.tup [.agg [.str (jX l name).1.name,.int .i64 (jX l name).1.next,.int .i64 (jX l name).1.limit,.bool (jX l name).1.shut],.bool (jX l name).2]) S:=by
 refine (bMl rfl ?_).eq S K
 simp only [aUg,kk,bAe l name hb,jX]
 rcases kK l name with h | ⟨i,s,h,h2,h3⟩
 ·simp only [h,show (-1:Int)<0 by decide,kk,oo,Ser.zero,if_true]
 ·simp only [h,show ¬ (i:Int)<0 by omega,kk,if_false,yO h2,Ser.enc,Int.toNat_natCast,h2,oo]
theorem bEr (l:List Ser) (name:List UInt8) (S:St) (K:KW):C 236 [.imm (l.map Ser.enc),.str name] S K=K (fZ (hN l name)) S:=by
 refine (bMf rfl ?_).eq S K
 simp only [aUa,kk,g86,hN,fZ]
 by_cases hr:mI l=true
 ·have hb:=nU hr
  simp only [hr,kk,bAe l name (show l.length<1000000 by omega),Bool.true_eq_false,if_false]
  rcases kK l name with h | ⟨i,s,h,h2,h3⟩
  ·simp only [h,show (-1:Int)<0 by decide,kk,oo,if_true]
  ·simp only [h,show ¬ (i:Int)<0 by omega,kk,if_false,yO h2,Ser.enc,Int.toNat_natCast,h2,oo]
   cases s.shut<;>simp
 ·have hr:mI l=false:=by simpa using hr
  simp only [hr,kk,oo,if_true]
theorem bAf (l:List Ser) (hb:l.length<1000000) {S:St} (w:WF S) {K:KW} (k:∀ v S',Ext S S'→Own S S' 4 v (l.map Ser.enc)→K v S'):C 235 [.imm (l.map Ser.enc)] S K:=by
 refine bMd rfl ?_
 simp only [aU8,kk]
 cases l with
 | nil=>
  exact k .nils ⟨S.next+0,S.heap⟩ ⟨fun a b h=>h,Nat.le_refl _,fun w=>w⟩ (Own.nil _ _ _)
 | cons x l=>
  obtain ⟨v,S1,q1,x1,own⟩:=aL0 (b:=40) aPd (x::l) pK (by omega) (by unfold fE;omega)
  have q2:dG 4 40 .nils (.imm ((x::l).map Ser.enc)) none E0=.ok (.sl 0 0 4 0 (l.length+1),⟨1,Tr.nil.put 0 (.row 0 4 ((x::l).map Ser.enc))⟩):=by
   have a1:iM 4 ((x::l).map Ser.enc)=true∧((x::l).map Ser.enc).all aN=true:=eA (fun c hc=>by obtain ⟨y,_,rfl⟩:=List.mem_map.1 hc;exact aPd y)
   simp only [dG,bU]
   rw [if_pos a1]
   simp only [List.map_cons]
   have hb2:l.length+1<1000000:=hb
   simp only [List.length_cons,List.length_map,fG]
   rw [if_pos (by unfold fE;omega)]
  rw [q2]
  simp only [kk]
  have hc:((x::l).map Ser.enc).all cloVs=true:=dQ (fun _=>rfl) _
  have ho:oW [0] (.sl 0 0 4 0 (l.length+1)) ⟨1,Tr.nil.put 0 (.row 0 4 ((x::l).map Ser.enc))⟩ S=.ok (.sl S.next 0 4 0 (l.length+1),⟨S.next+1,S.heap.put S.next (.row 0 4 ((x::l).map Ser.enc))⟩):=by
   have hg:(Tr.nil.put 0 (Blk.row 0 4 ((x::l).map Ser.enc))).get 0=some (.row 0 4 ((x::l).map Ser.enc)):=Tr.get_put_sameB _ _ _ trivial
   obtain ⟨z1,z2⟩:=nO (S:=⟨1,Tr.nil.put 0 (.row 0 4 ((x::l).map Ser.enc))⟩) (n:=2) hc
   simp only [List.map_cons] at hg z1 z2
   simp only [oW,V.cells,zA,iC,Nat.beq_refl,Bool.true_or,cond_true,gZ,hg,z1,oN,sQ,dL,z2,pR,mH,aCh,hg,z1,z2,Nat.zero_add,List.append_nil,List.any_nil,List.length_cons,List.length_nil,Nat.zero_add,Bool.not_false,Bool.and_self,List.nil_append,List.map_cons]
  rw [ho]
  simp only [kk]
  refine k _ _ (Ext.new w _) ⟨.inr ⟨S.next,0,[],by simp,Nat.le_refl _,Nat.lt_succ_self _,?_⟩,fun c hc=>by obtain ⟨y,_,rfl⟩:=List.mem_map.1 hc;exact aPd y⟩
  rw [List.append_nil];exact Tr.get_put_sameB _ _ _ trivial
theorem bNy (l:List Ser) (name:List UInt8) (limit:Int) (S:St) (K:KW):C 175 [.imm (l.map Ser.enc),.str name,.int .i64 limit] S K=K (.tup [.imm ((eT l name limit).1.map Ser.enc),.int .i64 (eT l name limit).2]) S:=by
 refine (bL0 rfl ?_).eq S K
 simp only [aSy,aF3,kk,g86,aPa]
 by_cases hr:mI l=true
 ·have hb:=nU hr
  simp only [hr,kk,bAe l name (show l.length<1000000 by omega),eT,Bool.true_eq_false,if_false]
  by_cases hn:eJ name=true
  ·simp only [hn,kk,Bool.true_eq_false,if_false]
   by_cases c1:limit<1
   ·simp only [c1,kk,oo,if_true,List.map_nil,true_or]
   ·by_cases c2:1099511627776<limit
    ·simp only [c1,c2,kk,oo,if_true,if_false,List.map_nil,or_true,decide_true]
    ·simp only [c1,c2,kk,if_false,or_self,decide_false]
     by_cases c3:0≤hM l name
     ·simp only [c3,kk,oo,if_true,List.map_nil]
     ·by_cases c4:8≤l.length
      ·simp only [c3,c4,show (8:Int)≤(l.length:Int) by omega,kk,oo,if_true,if_false,List.map_nil]
      ·simp only [c3,c4,show ¬ (8:Int)≤(l.length:Int) by omega,kk,if_false]
       have hj:∀ k:Nat,k=kR (fun s:Ser=>fF s.name name) l→zX C (fun v0 S0=>bZ S0 v0=Except.ok (.tup [.imm ((eY l (kR (fun s:Ser=>fF s.name name) l) ⟨name,1,limit,false⟩).map Ser.enc),.int .i64 0])) (.imm (l.map Ser.enc)) (.str name) (.int .i64 limit) (.int .i64 (k:Int)) ⟨0,.nil⟩:=by
        intro k hk
        simp only [zX]
        refine bAf l (by omega) pK fun v S1 x1 own=>?_
        have w1:=x1.wf pK
        have hkl:k≤l.length:=by rw [hk];exact vG _ _
        obtain ⟨v2,S2,q2,w2,own2⟩:=bEi bNq (by decide) own w1 (aPd ⟨name,1,limit,false⟩) (by simp;omega) (by simp [fE];omega) (i:=k) (by simpa using hkl)
        simp only [Ser.enc] at q2
        simp only [kk,aPc]
        rw [aMx bEk q2]
        rw [←lM] at own2
        simp only [oo,own2.frz (dQ (fun _=>rfl) _),hk]
       refine aY l (step:=eK (fun s:Ser=>fF s.name name)) (fin:=id) (fun i k vs S=>k=i∧vs=[.int .i64 (i:Int)]∧S=⟨0,.nil⟩) (fun r=>r=kR (fun s:Ser=>fF s.name name) l) ?_ ?_ ⟨rfl,rfl,rfl⟩ rfl
       ·rintro i s k vs S hi ⟨rfl,rfl,rfl⟩ aO H
        have hil:=(List.getElem?_eq_some_iff.1 hi).1
        simp only [eK] at H
        simp only [aF2,kk,dF hi,yO hi,Ser.enc,nH (show k<1000000000 by omega)]
        cases c:fF s.name name<;>simp only [c,kk,if_true,if_false,Bool.false_eq_true] at H ⊢
        ·exact hj _ H
        ·exact H _ _ ⟨rfl,rfl⟩
       ·rintro k vs S ⟨rfl,rfl,rfl⟩ aO H
        simp only [aF2,kk,Int.lt_irrefl]
        exact hj _ (by simpa using H)
  ·have hn:eJ name=false:=by simpa using hn
   simp only [hn,kk,oo,if_true,List.map_nil]
 ·have hr:mI l=false:=by simpa using hr
  simp only [hr,kk,oo,eT,if_true,List.map_nil]
theorem bNz (l:List Ser) (name:List UInt8) (S:St) (K:KW):C 177 [.imm (l.map Ser.enc),.str name] S K=K (.tup [.imm ((nV l name).1.map Ser.enc),.int .i64 (nV l name).2]) S:=by
 refine (bL4 rfl ?_).eq S K
 simp only [aT1,kk,bEr,fZ,nV]
 by_cases h0:(hN l name).2=0
 ·obtain ⟨hr,i,s,h1,_,h2,h3,_⟩:=vH h0
  have hb:=nU hr
  have hil:=(List.getElem?_eq_some_iff.1 h2).1
  have e1:(hN l name).1=(i:Int):=by rw [h1]
  simp only [h0,kk,not_true_eq_false,if_false]
  refine bAf l (by omega) pK fun v S1 x1 own=>?_
  obtain ⟨a,ver,_,_,_,e4,_,set1⟩:=own.setK x1 pK (i:=i) (cs:=s.enc) (by simp [h2]) .i64
  obtain ⟨S2,st1,x2,n2,own2,keep2,w2⟩:=set1 3 1 (.bool true) rfl rfl (by decide)
  have hfin:(l.map Ser.enc).set i (splice s.enc 3 [.bool true])=(l.set i { s with shut:=true }).map Ser.enc:=by rw [List.map_set];rfl
  simp only [V.cells] at own2
  rw [hfin] at own2
  simp only [e1,e4,kk,st1,oo,own2.frz (dQ (fun _=>rfl) _),Int.toNat_natCast,h2]
 ·simp only [h0,kk,oo,if_true,not_false_eq_true,List.map_nil]
theorem bO0 (l:List Ser) (name:List UInt8) (S:St) (K:KW):C 271 [.imm (l.map Ser.enc),.str name] S K=K (.tup [.imm ((dA l name).1.map Ser.enc),.int .i64 (dA l name).2.1,.int .i64 (dA l name).2.2]) S:=by
 refine (bMz rfl ?_).eq S K
 simp only [aUu,kk,bEr,fZ,dA]
 by_cases h0:(hN l name).2=0
 ·obtain ⟨hr,i,s,h1,_,h2,h3,_⟩:=vH h0
  have hb:=nU hr
  have hil:=(List.getElem?_eq_some_iff.1 h2).1
  have e1:(hN l name).1=(i:Int):=by rw [h1]
  simp only [h0,kk,not_true_eq_false,if_false,e1,yO h2,Ser.enc,Int.toNat_natCast,h2]
  by_cases c:s.limit<s.next
  ·simp only [c,kk,oo,if_true,List.map_nil]
  ·simp only [c,kk,if_false]
   refine bAf l (by omega) pK fun v S1 x1 own=>?_
   obtain ⟨a,ver,_,_,_,e4,hat,set1⟩:=own.setK x1 pK (i:=i) (cs:=s.enc) (by simp [h2]) .i64
   obtain ⟨S2,st1,x2,n2,own2,keep2,w2⟩:=set1 1 1 (.int .i64 (wr .i64 (s.next+1))) rfl rfl (by decide)
   have hld:=hat.load none 1
   have hfin:(l.map Ser.enc).set i (splice s.enc 1 [.int .i64 (wr .i64 (s.next+1))])=(l.set i { s with next:=wr .i64 (s.next+1) }).map Ser.enc:=by rw [List.map_set];rfl
   simp only [V.cells] at own2
   rw [hfin] at own2
   simp only [adv,kk] at hld
   simp only [e4,kk,hld,Ser.enc,st1,oo,own2.frz (dQ (fun _=>rfl) _)]
 ·simp only [h0,kk,oo,if_true,not_false_eq_true,List.map_nil]
theorem zne {S:St} (h:0<S.next):((0:Nat)=S.next)=False:=by simp;omega
theorem bO1 (l:List Rate) (cat:List UInt8) (d:Date) (S:St) (K:KW):C 278 [.imm (l.map Rate.enc),.str cat,.agg [.int .i64 d.y,.int .i64 d.m,.int .i64 d.d]] S K=K (.tup [.int .i64 (hU l cat d).1,.bool (hU l cat d).2]) S:=by
 refine (bN1 rfl ?_).eq S K
 simp only [aUw,kk,g85,zH,hU]
 by_cases hr:fU l=true
 ·have hb:=tH hr
  simp only [hr,kk,Bool.true_eq_false,if_false]
  cases hd:d.right
  ·simp only [hd,kk,oo,if_true]
  simp only [hd,kk,Bool.true_eq_false,if_false]
  refine aY l (step:=iV cat d) (fin:=id) (fun i s vs S=>vs=[.int .i64 s.1,.bool s.2,.int .i64 (i:Int)]∧aI S 0 0=.ok (3,[d.enc])∧0<S.next) (fun r=>r=aS (iV cat d) id l (0,false)) ?_ ?_ (s:=(0,false)) ⟨rfl,by simp only [kk];rfl,Nat.zero_lt_one⟩ rfl
  ·rintro i r ⟨bp,ok⟩ vs S hi ⟨rfl,hg,h0⟩ aO H
   have hil:=(List.getElem?_eq_some_iff.1 hi).1
   simp only [iV] at H
   simp only [aFo,aFn,kk,dF hi,aFu hi,Rate.enc,nH (show i<1000000000 by omega),iL,zne h0,gm,hg,Date.enc,aP8]
   have hg':∀ b b':Blk,aI ⟨S.next+1,(S.heap.put S.next b).put S.next b'⟩ 0 0=.ok (3,[d.enc]):=fun b b'=>by simp only [iL,kk,zne h0,gm,hg]
   cases c1:(r.cat == cat)<;>simp only [c1,kk,Bool.false_eq_true,false_and,if_false,true_and] at H ⊢
   ·exact H _ _ ⟨rfl,hg' _ _,Nat.succ_pos _⟩
   ·cases c2:d.before r.day<;>simp only [c2,kk,if_true,if_false,Bool.true_eq_false] at H ⊢<;>exact H _ _ ⟨rfl,hg' _ _,Nat.succ_pos _⟩
  ·rintro ⟨bp,ok⟩ vs S ⟨rfl,hg,h0⟩ aO H
   have H:(bp,ok)=aS (iV cat d) id l (0,false):=H
   simp only [aFo,kk,Int.lt_irrefl,oo,←H]
 ·have hr:fU l=false:=by simpa using hr
  simp only [hr,kk,oo,if_true]
theorem bO2:apT prog 24=some (5,48):=by kernel_rfl
theorem bEs:tX 237=some (.spec ((Sp.ins 24).run prog)):=by kernel_rfl
theorem aX7 (x:Rate):x.enc.length=5∧aN x.enc=true:=⟨rfl,rfl⟩
theorem Date.ext_iff (a b:Date):(a=b)=((a.y=b.y∧a.m=b.m)∧a.d=b.d):=by
 obtain ⟨_,_,_⟩:=a;obtain ⟨_,_,_⟩:=b;simp [and_assoc]
theorem aWd {P:Program} {T:TypeId} {α:Type} {enc:α→List V} {n b:Nat} (hT:apT P T=some (n,b)) (hn:1<n) (hl:∀ x,(enc x).length=n∧aN (enc x)=true) (l:List α) {S:St} (w:WF S) {ka kb m:Nat} (hk:S.next≤ka) (hm:ka<m) (hkb:S.next≤kb) (hmb:kb<m) (hne:ka≠kb)
  (h1:(l.length+1)*b≤35184372088832) (h2:l.length+1<fE) (x:α) {i:Nat} (hi:i≤l.length):
  ∃ v S1 v' S',dG n b .nils (.imm (l.map enc)) (some ka) ⟨m,S.heap⟩=.ok (v,S1)∧(∀ y,y<S.next→S1.heap.get y=S.heap.get y)∧fY P T v (.int .i64 (i:Int)) (.sl kb 0 n 0 1) ⟨S1.next,S1.heap.put kb (.row 0 n [enc x])⟩=.ok (v',S')∧Own E0 S' n v' ((eY l i x).map enc):=by
 have hx:Ext S ⟨m,S.heap⟩:=⟨fun a b h=>h,by show S.next≤m;omega,fun w a b h=>by have:=w a b h;show a<m;omega⟩
 have hnone:∀ k,S.next≤k→S.heap.get k=none:=by
  intro k hk
  cases hq:S.heap.get k with
  | none=>rfl
  | some b=>have:=w k b hq;omega
 have hc:∀ cs,cs∈l.map enc→cs.length=n∧aN cs=true:=fun cs hc=>by obtain ⟨x,_,rfl⟩:=List.mem_map.1 hc;exact hl x
 obtain ⟨a1,a2⟩:=eA hc
 have hwm:WF ⟨m,S.heap⟩:=hx.wf w
 have key:∃ v S1,dG n b .nils (.imm (l.map enc)) (some ka) ⟨m,S.heap⟩=.ok (v,S1)∧WF S1∧S1.next=m∧(∀ y,y<S.next→S1.heap.get y=S.heap.get y)∧S1.heap.get kb=none∧(∀ a ver k,v=.sl a ver n 0 k→a=ka)∧Own E0 S1 n v (l.map enc):=by
  cases l with
  | nil=>exact ⟨.nils,⟨m,S.heap⟩,rfl,hwm,rfl,fun _ _=>rfl,hnone kb hkb,(fun _ _ _ h=>by cases h),Own.nil _ _ _⟩
  | cons y l=>
   refine ⟨.sl ka 0 n 0 (l.length+1),⟨m,S.heap.put ka (.row 0 n ((y::l).map enc))⟩,?_,kS hwm hm (Nat.le_refl _),rfl,fun z hz=>Tr.get_put_neB _ _ _ _ trivial (by omega),?_,fun _ _ _ h=>(by cases h;rfl),⟨.inr ⟨ka,0,[],by simp,Nat.zero_le _,hm,?_⟩,hc⟩⟩
   ·simp only [dG,bU]
    rw [if_pos ⟨a1,a2⟩]
    simp only [List.map_cons,List.length_cons,List.length_map,lG] at h1 h2 ⊢
    have hb2:(l.length+1)*b≤(l.length+1+1)*b:=Nat.mul_le_mul_right _ (by omega)
    rw [if_pos ⟨by omega,by omega⟩]
   ·rw [Tr.get_put_neB _ _ _ _ trivial (Ne.symm hne)];exact hnone kb hkb
   ·rw [List.append_nil];exact Tr.get_put_sameB _ _ _ trivial
 obtain ⟨v,S1,q1,w1,n1,q2,q3,q4,own⟩:=key
 have x1:Ext S1 ⟨S1.next,S1.heap.put kb (.row 0 n [enc x])⟩:=⟨fun a c hc=>by
  show (S1.heap.put kb _).get a=some c
  rw [Tr.get_put_neB _ _ _ _ trivial (fun e=>by rw [e,q3] at hc;cases hc)];exact hc,Nat.le_refl _,fun w=>kS w (by omega) (Nat.le_refl _)⟩
 obtain ⟨v',S',p1,_,p3⟩:=(own.ext x1).insert hT hn (aCb (x1.wf w1)) pK (bx:=kb) (c:=enc x) (aR _ _ _ _ _ _) (fun a ver k hv=>by rw [q4 a ver k hv];exact hne) (hl x) (by simpa using h1) (by simpa using h2) (i:=i) (by simpa using hi)
 rw [←lM] at p3
 exact ⟨v,S1,v',S',q1,q2,p1,p3⟩
theorem bO3 (l:List Rate) (r:Rate) (S:St) (K:KW):C 178 [.imm (l.map Rate.enc),.agg [.str r.cat,.int .i64 r.day.y,.int .i64 r.day.m,.int .i64 r.day.d,.int .i64 r.bp]] S K=K (.tup [.imm ((gP l r).1.map Rate.enc),.int .i64 (gP l r).2]) S:=by
 refine (bL6 rfl ?_).eq S K
 simp only [aT3,kk,g85,gP]
 by_cases hr:fU l=true
 ·have hb:=tH hr
  simp only [hr,kk,Bool.true_eq_false,if_false,bEb]
  by_cases h0:tF r=0
  ·simp only [h0,kk,not_true_eq_false,if_false]
   refine aY l (step:=jY r) (fin:=some) (fun i k vs S=>vs=[.nils,.int .i64 0,.int .i64 (k:Int),.int .i64 (i:Int)]∧aI S 0 0=.ok (5,[r.enc])∧0<S.next∧WF S∧k≤i) (fun q=>q=aS (jY r) some l 0) ?_ ?_ (s:=0) ⟨rfl,by simp only [kk];rfl,Nat.zero_lt_one,kS pK (by decide) (by decide),Nat.le_refl _⟩ rfl
   ·rintro i x k vs S hi ⟨rfl,hg,hp,w,hki⟩ aO H
    have hil:=(List.getElem?_eq_some_iff.1 hi).1
    simp only [jY,Date.ext_iff,kk] at H
    have hg':∀ b b':Blk,aI ⟨S.next+1,(S.heap.put S.next b).put S.next b'⟩ 0 0=.ok (5,[r.enc]):=fun b b'=>by simp only [iL,kk,zne hp,gm,hg]
    have hw':∀ b b':Blk,WF ⟨S.next+1,(S.heap.put S.next b).put S.next b'⟩:=fun b b'=>kS (kS w (Nat.lt_succ_self _) (Nat.le_succ _)) (Nat.lt_succ_self _) (Nat.le_refl _)
    simp only [aF5,aF4,kk,dF hi,aFu hi,Rate.enc,nH (show i<1000000000 by omega),nH (show k<1000000000 by omega),iL,zne hp,gm,hg,bEc]
    cases c1:(x.cat == r.cat)<;>simp only [c1,kk,Bool.false_eq_true,false_and,if_false,true_and,Bool.and_eq_true,decide_eq_true_eq] at H ⊢
    ·cases c3:fJ x r<;>simp only [c3,kk,if_true,if_false,Bool.false_eq_true] at H ⊢<;>exact H _ _ ⟨rfl,hg' _ _,Nat.succ_pos _,hw' _ _,by omega⟩
    ·by_cases c2:(x.day.y=r.day.y∧x.day.m=r.day.m)∧x.day.d=r.day.d<;>simp only [c2,kk,if_true,if_false] at H ⊢
     ·have H':aS (jY r) some l 0=none:=H.symm
      simp only [oo,H',List.map_nil]
     ·cases c3:fJ x r<;>simp only [c3,kk,if_true,if_false,Bool.false_eq_true] at H ⊢<;>exact H _ _ ⟨rfl,hg' _ _,Nat.succ_pos _,hw' _ _,by omega⟩
   ·rintro k vs S ⟨rfl,hg,hp,w,hki⟩ aO H
    have H':aS (jY r) some l 0=some k:=H.symm
    simp only [aF5,kk,Int.lt_irrefl,H']
    by_cases c:24≤l.length
    ·simp only [c,show (24:Int)≤(l.length:Int) by omega,kk,oo,if_true,List.map_nil]
    ·obtain ⟨v,S1,v',S',q1,q2,q3,own⟩:=aWd bO2 (by decide) aX7 l w (ka:=S.next+1) (kb:=S.next+4) (m:=S.next+8) (by omega) (by omega) (by omega) (by omega) (by omega) (by omega) (by unfold fE;omega) r hki
     have hg1:aI S1 0 0=.ok (5,[r.enc]):=bI hg (q2 0 hp)
     simp only [Rate.enc] at hg hg1 q3
     simp only [c,show ¬ (24:Int)≤(l.length:Int) by omega,kk,gm,hg,q1,hg1,bEh,if_false]
     rw [aMx bEs q3]
     simp only [oo,own.frz (dQ (fun _=>rfl) _),c,if_false]
  ·simp only [h0,kk,oo,if_true,not_false_eq_true,List.map_nil]
 ·have hr:fU l=false:=by simpa using hr
  simp only [hr,kk,oo,if_true,List.map_nil]
end Go.Proofs.YtoaibmbldmckaaaGreat
end
section
namespace Go.AM
theorem aWe (n:Nat) (z:List V) (parts:List (Nat×V)) (fr:Option Nat) (S:St) (hn:n≤1000):aQ n z 2 parts fr S=(match rV n [z,z] parts with
  | .error e=>.error e
  | .ok elems=>match aJ fr S (.row 0 n elems) with
   | .error e=>.error e
   | .ok (a,S')=>.ok (.sl a 0 n 0 2,S')):=by
 unfold aQ
 rw [if_pos (by omega)]
 rfl
theorem bEt (z:List V) (parts:List (Nat×V)) (fr:Option Nat) (S:St):type_of% (aWe 2 z parts fr S (by decide)):=aWe 2 z parts fr S (by decide)
theorem Own.bump {S0 S:St} {n:Nat} {v:V} {es:List (List V)} (h:Own S0 S n v es) (c:Nat):Own S0 ⟨S.next+c,S.heap⟩ n v es:=h.ext ((Ext.refl S).bump c)
theorem aPe {n b:Nat} {S:St} {v:V} {es:List (List V)} (h:Own E0 S n v es) (w:WF S) {cs:List (List V)} (hc:∀ c,c∈cs→c.length=n∧aN c=true) (hne:cs≠[]) (h1:(es.length+cs.length)*b≤35184372088832) (h2:es.length+cs.length<fE):
  ∃ v' S',dG n b v (.sl S.next 0 n 0 cs.length) none ⟨S.next+1,S.heap.put S.next (.row 0 n cs)⟩=.ok (v',S')∧Own E0 S' n v' (es++cs)∧WF S'∧∀ y,y<S.next→(∀ a ver m,v=.sl a ver n 0 m→y≠a)→S'.heap.get y=S.heap.get y:=by
 have x:Ext S ⟨S.next+1,S.heap.put S.next (.row 0 n cs)⟩:=Ext.new w _
 have hu:bU ⟨S.next+1,S.heap.put S.next (.row 0 n cs)⟩ (.sl S.next 0 n 0 cs.length)=.ok cs:=by
  have hb:Nat.ble (0+cs.length) cs.length=true:=Nat.ble_eq_true_of_le (by omega)
  simp only [bU,aR,hb,cond_true,List.drop_zero,List.take_length]
 obtain ⟨v',S',q1,q2,_,q3,q4⟩:=(h.ext x).pushK (b:=b) (aCb (x.wf w)) pK hu hc hne h1 h2
 refine ⟨v',S',q1,q3,q2.wf pK,fun y hy hya=>?_⟩
 rw [q4 y (by show y<S.next+1;omega) hya]
 exact Tr.get_put_neB _ _ _ _ trivial (by omega)
end Go.AM
namespace Go.Proofs.YtoaibmbldmckaaaGreat
open Go.AM Tryz
set_option linter.unusedVariables false
set_option linter.unusedSimpArgs false
set_option maxRecDepth 100000
def Total.enc (t:Total):List V:=[.int .i64 t.net,.int .i64 t.tax,.int .i64 t.gross,.imm (t.parts.map Part.enc)]
def aMy (t:Total):Prop:=t.parts.length≤12∧∀ q∈t.parts,q.cat.length≤1000000
theorem aL2 {P:Program} {t:TypeId} {a b:List UInt8} (h:a.length+b.length<2000000):aH P .add t (.str a) (.str b)=.ok (.str (a++b)):=by
 have:Nat.blt (a.length+b.length) fE=true:=by rw [Nat.blt_eq];unfold fE;omega
 simp only [aH,tY,this,cond_true]
theorem aPf (x:Bal):x.enc.length=2∧aN x.enc=true:=⟨rfl,rfl⟩
theorem aPg (x:Part):x.enc.length=4∧aN x.enc=true:=⟨rfl,rfl⟩
theorem bEu (t:Total) (hf:aMy t) (S:St) (K:KW):C 157 [.agg [.int .i64 t.net,.int .i64 t.tax,.int .i64 t.gross,.imm (t.parts.map Part.enc)]] S K=K (.tup [.imm ((eF t).1.map Bal.enc),.int .i64 (eF t).2]) S:=by
 refine (bKd rfl ?_).eq S K
 simp only [aSb,kk,bEg]
 have hpl:=hf.1
 refine aY t.parts (step:=rP) (fin:=fun l=>(l,0)) (fun i s vs S=>∃ v,vs=[.nils,.int .i64 0,v,.int .i64 (i:Int)]∧Own E0 S 2 v (s.map Bal.enc)∧WF S∧s.length=1+2*i) (fun r=>r=eF t) ?_ ?_ (s:=[⟨[111,119,101,100],t.gross⟩]) ⟨_,rfl,⟨.inr ⟨1,0,[],rfl,Nat.zero_le _,Nat.lt_succ_self 1,rfl⟩,?_⟩,kS (kS (m:=1) pK (by decide) (by decide)) (by decide) (by decide),rfl⟩ rfl
 ·rintro i p s vs S hi ⟨v,rfl,own,w,hsl⟩ aO H
  have hil:=(List.getElem?_eq_some_iff.1 hi).1
  have hcat:=hf.2 p (List.mem_of_getElem? hi)
  simp only [rP,kk] at H
  have e1:aMq.length+p.cat.length<2000000:=by simp only [aMq,List.length_cons,List.length_nil];omega
  have e2:aMr.length+p.cat.length<2000000:=by simp only [aMr,List.length_cons,List.length_nil];omega
  have c1:=aL2 (P:=prog) (t:=9) e1
  have c2:=aL2 (P:=prog) (t:=9) e2
  simp only [aMq,aMr] at c1 c2
  simp only [aEt,kk,dF hi,tL hi,Part.enc,nH (show i<1000000000 by omega),bAb,fZ,iL,c1,c2,bEt]
  by_cases h1:(jO 0 p.net).2=0
  ·by_cases h2:(jO 0 p.tax).2=0
   ·simp only [h1,h2,kk,not_true_eq_false,if_false] at H ⊢
    have w1:WF ⟨S.next+1,(S.heap.put S.next (.row 0 4 [[V.str [],.int .i64 0,.int .i64 0,.int .i64 0]])).put S.next (.row 0 4 [p.enc])⟩:=kS (kS w (Nat.lt_succ_self _) (Nat.le_succ _)) (Nat.lt_succ_self _) (Nat.le_refl _)
    have x1:Ext S ⟨S.next+1,(S.heap.put S.next (.row 0 4 [[V.str [],.int .i64 0,.int .i64 0,.int .i64 0]])).put S.next (.row 0 4 [p.enc])⟩:=Ext.var w 4 _ _
    obtain ⟨v',S',q1,q2,q3,_⟩:=aPe (b:=24) (own.ext x1) w1 (cs:=[Bal.enc ⟨aMq++p.cat,(jO 0 p.net).1⟩,Bal.enc ⟨aMr++p.cat,(jO 0 p.tax).1⟩]) (fun c hc=>by
     rcases List.mem_cons.1 hc with rfl | hc
     ·exact aPf _
     ·rcases List.mem_cons.1 hc with rfl | hc
      ·exact aPf _
      ·cases hc) (by simp) (by simp;omega) (by simp [fE];omega)
    simp only [Part.enc,Bal.enc,aMq,aMr,kk] at q1
    simp only [q1,kk]
    exact H _ _ ⟨_,rfl,by rw [List.map_append];exact q2,q3,by rw [List.length_append,hsl];simp;omega⟩
   ·simp only [h1,h2,kk,not_true_eq_false,not_false_eq_true,if_false,if_true] at H ⊢
    simp only [oo,←H,List.map_nil]
  ·simp only [h1,kk,not_false_eq_true,if_true] at H ⊢
   simp only [oo,←H,List.map_nil]
 ·rintro s vs S ⟨v,rfl,own,w,_⟩ aO H
  have H':eF t=(s,0):=H.symm
  simp only [aEt,kk,Int.lt_irrefl,oo,own.frz (dQ (fun _=>rfl) _),H']
 ·intro c hc;simp at hc;subst hc;exact ⟨rfl,rfl⟩
theorem bEv (l:List Bal) (hb:l.length<1000000):Fv 220 [.imm (l.map Bal.enc)] (.bool (aD4 l)):=by
 refine bLy rfl ?_
 simp only [aTt]
 refine aY (l.drop 1) (step:=aB9) (fin:=fun _=>true) (fun j s vs S=>s=l[j]?∧vs=[.bool false,.int .i64 ((j+1:Nat):Int)]) (fun r=>V.bool r=.bool (aD4 l)) ?_ ?_ (s:=l[0]?) ⟨rfl,rfl⟩ rfl
 ·rintro j b s vs S hi ⟨rfl,rfl⟩ aO H
  rw [List.getElem?_drop,Nat.add_comm] at hi
  have hil:=(List.getElem?_eq_some_iff.1 hi).1
  have hj:l[j]?=some l[j]:=List.getElem?_eq_getElem (by omega)
  simp only [hj,aB9,hi] at H
  simp only [aFa,kk,dF hi,aD9 hi,aD9 hj,Bal.enc,wrm (show j+1<1000000000 by omega),nH (show j+1<1000000000 by omega)]
  cases c:fF l[j].acc b.acc<;>simp only [c,kk,if_true,if_false,Bool.false_eq_true] at H ⊢
  ·exact H
  ·exact H _ _ rfl
 ·rintro s vs S ⟨rfl,rfl⟩ aO H
  have hn:¬ (((l.drop 1).length+1:Nat):Int)<(l.length:Int):=by rw [List.length_drop];omega
  simp only [aFa,kk,hn]
  exact H
theorem bO4 (l:List Bal) (hb:l.length<1000000) (S:St) (K:KW):C 220 [.imm (l.map Bal.enc)] S K=K (.bool (aD4 l)) S:=(bEv l hb).eq S K
theorem bO5:apT prog 27=some (2,24):=by kernel_rfl
theorem bEw:tX 221=some (.spec ((Sp.ins 27).run prog)):=by kernel_rfl
theorem bAg (book l:List Bal) (hbb:book.length+l.length<1000000) (S:St) (K:KW):C 158 [.imm (book.map Bal.enc),.imm (l.map Bal.enc)] S K=K (.tup [.imm ((cW book l).1.map Bal.enc),.int .i64 (cW book l).2]) S:=by
 refine (bKf rfl ?_).eq S K
 simp only [aSd,kk,bO4 book (show book.length<1000000 by omega),cW]
 by_cases hr:aD4 book=true
 ·simp only [hr,kk,Bool.true_eq_false,if_false]
  obtain ⟨v0,S0,q0,x0,own0⟩:=aPb (b:=24) aPf book pK (by omega) (by unfold fE;omega)
  simp only [q0,kk]
  refine aY l (step:=dN) (fin:=fun l=>(l,0)) (fun i s vs S=>∃ v,vs=[.nils,.int .i64 0,v,.int .i64 (i:Int)]∧Own E0 S 2 v (s.map Bal.enc)∧WF S∧s.length≤book.length+i) (fun r=>r=aS dN (fun l=>(l,0)) l book) ?_ ?_ (s:=book) ⟨_,rfl,own0,x0.wf pK,Nat.le_refl _⟩ rfl
  ·rintro i x s vs S hi ⟨v,rfl,own,w,hsl⟩ aO H
   have hil:=(List.getElem?_eq_some_iff.1 hi).1
   rw [oX] at H
   simp only [aEv,kk,dF hi,aD9 hi,Bal.enc]
   obtain ⟨S1,hS1⟩:∃ S1:St,S1=⟨S.next+1,(S.heap.put S.next (.row 0 2 [[V.str [],.int .i64 0]])).put S.next (.row 0 2 [[.str x.acc,.int .i64 x.amount]])⟩:=⟨_,rfl⟩
   have x1:Ext S S1:=by rw [hS1];exact Ext.var w 2 _ _
   have w1:=x1.wf w
   have hg1:aI S1 S.next 0=.ok (2,[x.enc]):=by rw [hS1];exact aR _ _ _ _ _ _
   have own1:=own.ext x1
   have hlt1:S.next<S1.next:=by rw [hS1];exact Nat.lt_succ_self _
   rw [←hS1]
   have hva:∀ a ver m,v=.sl a ver 2 0 m→S.next≠a:=by
    intro a ver m hv
    rcases own.is with ⟨rfl,_⟩ | ⟨a',ver',tl,rfl,_,hlt,_⟩
    ·cases hv
    ·cases hv;omega
   have hlen:s.length<1000000:=by omega
   have hple:=qL s x.acc
   have hj1:∀ (v':V) (S':St),Own E0 S' 2 v' ((eD s x.acc).map Bal.enc)→WF S'→aI S' S.next 0=.ok (2,[x.enc])→zU C (fun v0 S0=>bZ S0 v0=.ok (.tup [.imm ((aS dN (fun l=>(l,0)) l book).1.map Bal.enc),.int .i64 (aS dN (fun l=>(l,0)) l book).2])) aO .nils (.int .i64 0) v' (.ptr S.next 0 0 0) (.int .i64 (cA s x.acc:Int)) (.imm (l.map Bal.enc)) (.int .i64 (l.length:Int)) (.int .i64 (i:Int)) S':=by
    intro v' S' own' w' hg'
    obtain ⟨b,hb⟩:=yJ s x.acc
    obtain ⟨a,ver,_,_,_,e4,hat,set1⟩:=(own'.bump 13).setK (aCb (w'.bump 13)) pK (i:=cA s x.acc) (cs:=b.enc) (by simp [hb]) .i64
    obtain ⟨S2,st1,x2,n2,own2,keep2,w2⟩:=set1 1 1 (.int .i64 (cN b.amount x.amount).1) rfl rfl (by decide)
    have hld:=hat.load none 1
    simp only [adv,kk,Bal.enc] at hld
    have hfin:((eD s x.acc).map Bal.enc).set (cA s x.acc) (splice b.enc 1 [.int .i64 (cN b.amount x.amount).1])=((eD s x.acc).set (cA s x.acc) ⟨b.acc,(cN b.amount x.amount).1⟩).map Bal.enc:=by rw [List.map_set];rfl
    simp only [V.cells] at own2
    rw [hfin] at own2
    simp only [hb,Option.map_some,Option.getD_some,kk] at H
    have hg2:aI ⟨S'.next+13,S'.heap⟩ S.next 0=.ok (2,[x.enc]):=hg'
    simp only [Bal.enc] at hg2
    simp only [zU,e4,kk,hld,hg2,aP9,fZ,nH (show i<1000000000 by omega),st1]
    by_cases h0:(cN b.amount x.amount).2=0
    ·simp only [h0,kk,not_true_eq_false,if_false] at H ⊢
     exact H _ _ ⟨_,rfl,own2,w2 (w'.bump 13),by rw [List.length_set];have:=yK s x.acc;omega⟩
    ·simp only [h0,kk,not_false_eq_true,if_true] at H ⊢
     simp only [oo,←H,List.map_nil]
   have hj2:∀ (S':St),Own E0 S' 2 v (s.map Bal.enc)→WF S'→aI S' S.next 0=.ok (2,[x.enc])→S.next<S'.next→vA C (fun v0 S0=>bZ S0 v0=.ok (.tup [.imm ((aS dN (fun l=>(l,0)) l book).1.map Bal.enc),.int .i64 (aS dN (fun l=>(l,0)) l book).2])) aO .nils (.int .i64 0) v (.ptr S.next 0 0 0) (.int .i64 (cA s x.acc:Int)) (.imm (l.map Bal.enc)) (.int .i64 (l.length:Int)) (.int .i64 (i:Int)) (.bool (mS s x.acc)) S':=by
    intro S' own' w' hg' hlt'
    cases hm:mS s x.acc
    ·simp only [vA,kk]
     exact hj1 v S' (by rw [show eD s x.acc=s by simp [eD,hm]];exact own') w' hg'
    ·obtain ⟨v2,S2,q1,w2,own2,keep2⟩:=aX6 bO5 (by decide) own' w' (aPf ⟨x.acc,0⟩) (by simp;omega) (by simp [fE];omega) (i:=cA s x.acc) (by simpa using hple)
     rw [←lM] at own2
     have hg2:=bI hg' (keep2 S.next hlt' hva)
     simp only [Bal.enc] at hg' q1
     simp only [vA,kk,hg',bEg]
     rw [aMx bEw q1]
     exact hj1 v2 S2 (by rw [show eD s x.acc=eY s (cA s x.acc) ⟨x.acc,0⟩ by simp [eD,hm]];exact own2) w2 hg2
   have hj0:∀ (S':St),Own E0 S' 2 v (s.map Bal.enc)→WF S'→aI S' S.next 0=.ok (2,[x.enc])→S.next<S'.next→zV C (fun v0 S0=>bZ S0 v0=.ok (.tup [.imm ((aS dN (fun l=>(l,0)) l book).1.map Bal.enc),.int .i64 (aS dN (fun l=>(l,0)) l book).2])) aO .nils (.int .i64 0) v (.ptr S.next 0 0 0) (.int .i64 (cA s x.acc:Int)) (.imm (l.map Bal.enc)) (.int .i64 (l.length:Int)) (.int .i64 (i:Int)) S':=by
    intro S' own' w' hg' hlt'
    have h2:=hj2 ⟨S'.next+14,S'.heap⟩ (own'.bump 14) (w'.bump 14) hg' (by show S.next<S'.next+14;omega)
    have hgb:aI ⟨S'.next+14,S'.heap⟩ S.next 0=.ok (2,[x.enc]):=hg'
    simp only [Bal.enc] at hgb
    simp only [zV,own'.sl.lenI,kk]
    by_cases hk:cA s x.acc=s.length
    ·have hm:mS s x.acc=true:=by unfold mS;rw [hk,List.getElem?_eq_none (Nat.le_refl _)]
     rw [hm] at h2
     simp only [hk,kk,eq_self,if_true]
     rw [hk] at h2
     exact h2
    ·have hlt:cA s x.acc<s.length:=by omega
     have hb:s[cA s x.acc]?=some s[cA s x.acc]:=List.getElem?_eq_getElem hlt
     have hm:mS s x.acc=!((s[cA s x.acc]).acc == x.acc):=by unfold mS;rw [hb]
     rw [hm] at h2
     obtain ⟨p,hp,hat,_,_⟩:=(own'.bump 14).sl.elem hb
     have hld:=hat.load none 0
     simp only [Bal.enc,kk] at hld
     simp only [show ¬ ((cA s x.acc:Nat):Int)=(s.length:Int) by omega,kk,if_false,hp,hat.advW,hld,hgb]
     exact h2
   refine aY s (step:=eK (fun b:Bal=>fF b.acc x.acc)) (fin:=id) (fun k n vs S'=>n=k∧vs=[.int .i64 (k:Int)]∧S'.heap=S1.heap∧S1.next≤S'.next) (fun r=>r=cA s x.acc) ?_ ?_ ⟨rfl,rfl,rfl,Nat.le_refl _⟩ rfl
   ·rintro k b n vs S' hk ⟨rfl,rfl,hh,hn⟩ again' H'
    have hkl:=(List.getElem?_eq_some_iff.1 hk).1
    have hown:∀ c,Own E0 ⟨S'.next+c,S'.heap⟩ 2 v (s.map Bal.enc):=fun c=>own1.same (by show S1.next≤S'.next+c;omega) (fun a _=>by show S'.heap.get a=_;rw [hh])
    have hw:∀ c,WF ⟨S'.next+c,S'.heap⟩:=fun c a b hb=>by
     have hb:S'.heap.get a=some b:=hb
     rw [hh] at hb;have:=w1 a b hb;show a<S'.next+c;omega
    have hgr:∀ c,aI ⟨S'.next+c,S'.heap⟩ S.next 0=.ok (2,[x.enc]):=fun c=>by
     show aI ⟨S'.next,S'.heap⟩ S.next 0=_
     rw [hh];exact hg1
    have hgb:=hgr 14
    simp only [Bal.enc] at hgb
    obtain ⟨p,hp,hat,_,_⟩:=(hown 14).sl.elem hk
    have hld:=hat.load none 0
    simp only [Bal.enc,kk] at hld
    simp only [eK] at H'
    simp only [aEu,kk,own1.sl.lenI,dF hk,hp,hat.advW,hld,hgb,nH (show n<1000000000 by omega)]
    cases c:fF b.acc x.acc<;>simp only [c,kk,if_true,if_false,Bool.false_eq_true] at H' ⊢
    ·have:=hj0 ⟨S'.next+14,S'.heap⟩ (hown 14) (hw 14) (hgr 14) (by show S.next<S'.next+14;omega)
     rw [←H'] at this
     exact this
    ·exact H' _ _ ⟨rfl,hh,by show S1.next≤S'.next+14;omega⟩
   ·rintro n vs S' ⟨rfl,rfl,hh,hn⟩ again' H'
    have hown:∀ c,Own E0 ⟨S'.next+c,S'.heap⟩ 2 v (s.map Bal.enc):=fun c=>own1.same (by show S1.next≤S'.next+c;omega) (fun a _=>by show S'.heap.get a=_;rw [hh])
    have hw:∀ c,WF ⟨S'.next+c,S'.heap⟩:=fun c a b hb=>by
     have hb:S'.heap.get a=some b:=hb
     rw [hh] at hb;have:=w1 a b hb;show a<S'.next+c;omega
    have hgr:∀ c,aI ⟨S'.next+c,S'.heap⟩ S.next 0=.ok (2,[x.enc]):=fun c=>by
     show aI ⟨S'.next,S'.heap⟩ S.next 0=_
     rw [hh];exact hg1
    have H':s.length=cA s x.acc:=H'
    simp only [aEu,kk,own1.sl.lenI,Int.lt_irrefl]
    have:=hj0 ⟨S'.next+14,S'.heap⟩ (hown 14) (hw 14) (hgr 14) (by show S.next<S'.next+14;omega)
    rw [←H'] at this
    exact this
  ·rintro s vs S ⟨v,rfl,own,w,_⟩ aO H
   have H':aS dN (fun l=>(l,0)) l book=(s,0):=H.symm
   simp only [aEv,kk,Int.lt_irrefl,oo,own.frz (dQ (fun _=>rfl) _),H']
 ·have hr:aD4 book=false:=by simpa using hr
  simp only [hr,kk,oo,if_true,List.map_nil]
end Go.Proofs.YtoaibmbldmckaaaGreat
end
section
namespace Go.Proofs.YtoaibmbldmckaaaGreat
open Go.AM Tryz
theorem bO6 (tab:List Rate) (d:Date) (l:Line) (S:St) (K:KW):C 268 [.imm (tab.map Rate.enc),.agg [.int .i64 d.y,.int .i64 d.m,.int .i64 d.d],.agg [.str l.text,.str l.cat,.int .i64 l.count,.int .i64 l.price]] S K=K (aP4 (eZ tab d l)) S:=by
 refine (bMt rfl ?_).eq S K
 simp only [aUo,aFk,kk,iL,aPa,bO1,bNh,eZ,aP4,fZ]
 by_cases c1:64<l.text.length
 ·simp only [c1,show (64:Int)<(l.text.length:Int) by omega,kk,oo,if_true]
 simp only [c1,show ¬ (64:Int)<(l.text.length:Int) by omega,kk,if_false]
 cases c2:eJ l.cat
 ·simp only [c2,kk,oo,if_true]
 simp only [c2,kk,Bool.true_eq_false,if_false]
 by_cases c3:l.count<1
 ·simp only [c3,kk,oo,true_or,if_true]
 by_cases c4:1048576<l.count
 ·simp only [c3,c4,kk,oo,or_true,if_true,if_false]
 simp only [c3,c4,kk,if_false,or_self]
 cases c5:(hU tab l.cat d).2
 ·simp only [c5,kk,oo,if_true]
 ·simp only [c5,kk,oo,Bool.true_eq_false,if_false]
theorem bO7:apT prog 80=some (4,40):=by kernel_rfl
theorem bEx:tX 280=some (.spec ((Sp.ins 80).run prog)):=by kernel_rfl
theorem bO8 {P:Program} {T:TypeId} {n b:Nat} (hT:apT P T=some (n,b)) (hn:1<n) {S0 S:St} {v:V} {es:List (List V)} (h:Own S0 S n v es) (x:Ext S0 S) (w:WF S0) {c:List V} (hc:c.length=n∧aN c=true) (h1:(es.length+1)*b≤35184372088832) (h2:es.length+1<fE) {i:Nat} (hi:i≤es.length):
  ∃ v' S',fY P T v (.int .i64 (i:Int)) (.sl S.next 0 n 0 1) ⟨S.next+1,S.heap.put S.next (.row 0 n [c])⟩=.ok (v',S')∧Ext S0 S'∧Own S0 S' n v' (es.take i++c::es.drop i):=by
 have x1:Ext S ⟨S.next+1,S.heap.put S.next (.row 0 n [c])⟩:=Ext.new (x.wf w) _
 obtain ⟨v',S',q1,q2,q3,_⟩:=(h.ext x1).insertK hT hn (x.trans x1) w (bx:=S.next) (c:=c) (aR _ _ _ _ _ _) (fun a ver m hv=>by
  rcases h.is with ⟨rfl,_⟩ | ⟨a',ver',tl,rfl,_,hlt,_⟩
  ·cases hv
  ·cases hv;omega) hc h1 h2 hi
 exact ⟨v',S',q1,q2,q3⟩
theorem bO9 {S0 S:St} {v:V} {l:List Part} (own:Own S0 S 4 v (l.map Part.enc)) (x:Ext S0 S) (w:WF S0) (hl:l.length≤1000) (cat:List UInt8) (bp n:Int) {K:KW} (H:∀ v' S',Ext S0 S'→Own S0 S' 4 v' ((pQ l cat bp n).1.map Part.enc)→K (.tup [v',.int .i64 (pQ l cat bp n).2]) S'):C 269 [v,.str cat,.int .i64 bp,.int .i64 n] S K:=by
 refine bMv ?_
 simp only [aUq]
 have hple:=oY l cat
 have hlen:lenW v=.ok (.int .i64 (l.length:Int)):=own.sl.lenI
 have hj1:∀ (v':V) (S':St),Ext S0 S'→Own S0 S' 4 v' ((dM l cat bp).map Part.enc)→zZ C K v' (.int .i64 n) (.int .i64 (bS l cat:Int)) S':=by
  intro v' S' x' own'
  obtain ⟨b,hb⟩:=oZ l cat bp
  obtain ⟨a,ver,_,_,_,e4,hat,set1⟩:=own'.setK x' w (i:=bS l cat) (cs:=b.enc) (by simp [hb]) .i64
  obtain ⟨S2,st1,x2,n2,own2,keep2,w2⟩:=set1 2 1 (.int .i64 (cN b.net n).1) rfl rfl (by decide)
  have hld:=hat.load none 2
  simp only [adv,kk,Part.enc] at hld
  have hfin:((dM l cat bp).map Part.enc).set (bS l cat) (splice b.enc 2 [.int .i64 (cN b.net n).1])=((dM l cat bp).set (bS l cat) { b with net:=(cN b.net n).1 }).map Part.enc:=by rw [List.map_set];rfl
  simp only [V.cells] at own2
  rw [hfin] at own2
  have hput:pQ l cat bp n=((dM l cat bp).set (bS l cat) { b with net:=(cN b.net n).1 },(cN b.net n).2):=by simp only [pQ,hb]
  simp only [zZ,e4,kk,hld,aP9,fZ,st1]
  have:=H v' S2 x2 (by rw [hput];exact own2)
  rw [hput] at this
  exact this
 have hj2:vD C K v (.str cat) (.int .i64 bp) (.int .i64 n) (.int .i64 (bS l cat:Int)) (.bool (iW l cat)) S:=by
  cases hm:iW l cat
  ·simp only [vD,kk,Bool.false_eq_true,if_false]
   exact hj1 v S x (by rw [show dM l cat bp=l by simp [dM,hm]];exact own)
  ·obtain ⟨v2,S2,q1,x2,own2⟩:=bO8 bO7 (by decide) own x w (aPg ⟨cat,bp,0,0⟩) (by simp;omega) (by simp [fE];omega) (i:=bS l cat) (by simpa using hple)
   rw [←lM] at own2
   simp only [Part.enc] at q1
   simp only [vD,kk,if_true,aPc]
   rw [aMx bEx q1]
   exact hj1 v2 S2 x2 (by rw [show dM l cat bp=eY l (bS l cat) ⟨cat,bp,0,0⟩ by simp [dM,hm]];exact own2)
 have hj0:aA0 C K v (.str cat) (.int .i64 bp) (.int .i64 n) (.int .i64 (bS l cat:Int)) S:=by
  simp only [aA0,kk,hlen]
  by_cases hk:bS l cat=l.length
  ·have hm:iW l cat=true:=by unfold iW;rw [hk,List.getElem?_eq_none (Nat.le_refl _)]
   rw [hm] at hj2
   rw [hk] at hj2
   simp only [hk,kk,if_true]
   exact hj2
  ·have hlt:bS l cat<l.length:=by omega
   have hb:l[bS l cat]?=some l[bS l cat]:=List.getElem?_eq_getElem hlt
   have hm:iW l cat=!((l[bS l cat]).cat == cat):=by unfold iW;rw [hb]
   rw [hm] at hj2
   obtain ⟨p,hp,hat,_,_⟩:=own.sl.elem hb
   have hld:=hat.load none 0
   simp only [Part.enc,kk] at hld
   simp only [show ¬ ((bS l cat:Nat):Int)=(l.length:Int) by omega,kk,if_false,hp,hat.advW,hld]
   exact hj2
 refine aY l (step:=eK (fun b:Part=>fF b.cat cat)) (fin:=id) (fun k n vs S'=>n=k∧vs=[.int .i64 (k:Int)]∧S'=S) (fun r=>r=bS l cat) ?_ ?_ ⟨rfl,rfl,rfl⟩ rfl
 ·rintro k b m vs S' hk ⟨rfl,rfl,rfl⟩ again' H'
  have hkl:=(List.getElem?_eq_some_iff.1 hk).1
  obtain ⟨p,hp,hat,_,_⟩:=own.sl.elem hk
  have hld:=hat.load none 0
  simp only [Part.enc,kk] at hld
  simp only [eK] at H'
  simp only [aFl,kk,hlen,dF hk,hp,hat.advW,hld,nH (show m<1000000000 by omega)]
  cases c:fF b.cat cat<;>simp only [c,kk,if_true,if_false,Bool.false_eq_true] at H' ⊢
  ·rw [←H'] at hj0
   exact hj0
  ·exact H' _ _ ⟨rfl,rfl⟩
 ·rintro m vs S' ⟨rfl,rfl,rfl⟩ again' H'
  have H':l.length=bS l cat:=H'
  simp only [aFl,kk,hlen,Int.lt_irrefl,if_false]
  rw [←H'] at hj0
  exact hj0
end Go.Proofs.YtoaibmbldmckaaaGreat
end
section
namespace Go.AM
theorem Own.one {S0 S:St} {n:Nat} {v:V} {es:List (List V)} (h:Own S0 S n v es):v.one=true:=by
 rcases h.is with ⟨rfl,_⟩ | ⟨a,ver,tl,rfl,_⟩<;>rfl
theorem Own.cells {S0 S:St} {n:Nat} {v:V} {es:List (List V)} (h:Own S0 S n v es):v.cells=[v]:=by
 rcases h.is with ⟨rfl,_⟩ | ⟨a,ver,tl,rfl,_⟩<;>rfl
theorem Own.lt {S0 S:St} {n:Nat} {v:V} {es:List (List V)} (h:Own S0 S n v es):∀ a ver m,v=.sl a ver n 0 m→a<S.next:=by
 intro a ver m hv
 rcases h.is with ⟨rfl,_⟩ | ⟨a',ver',tl,rfl,_,hlt,_⟩
 ·cases hv
 ·cases hv;exact hlt
theorem Own.ld {S0 S:St} {n:Nat} {v:V} {es:List (List V)} (h:Own S0 S n v es) {a ver m:Nat} (hv:v=.sl a ver n 0 m) {i:Nat} {cs:List V} (hi:es[i]?=some cs) (k:Option Nat) (j:Nat):bB k (.ptr a ver i j) S=gI k cs j:=by
 rcases h.is with ⟨rfl,rfl⟩ | ⟨a',ver',tl,rfl,q1,q2,q3⟩
 ·simp at hi
 ·cases hv
  have hil:=(List.getElem?_eq_some_iff.1 hi).1
  have hg:(es++tl)[i]?=some cs:=by rw [List.getElem?_append_left hil];exact hi
  simp only [ldP,fI q3,hg]
theorem Own.put {S0 S:St} {n:Nat} {v:V} {es:List (List V)} (h:Own S0 S n v es) {k m:Nat} {b:Blk} (hm:S.next≤m) (hk:∀ a ver m,v=.sl a ver n 0 m→k≠a):Own S0 ⟨m,S.heap.put k b⟩ n v es:=
 h.other hm fun a ver m hv=>Tr.get_put_neB _ _ _ _ trivial (Ne.symm (hk a ver m hv))
theorem Ext.put {S S':St} (h:Ext S S') {a m:Nat} (ha:S.next≤a) (hb:a<m) (hm:S'.next≤m) (w:WF S) (b:Blk):Ext S ⟨m,S'.heap.put a b⟩:=
 ⟨fun y c hy=>by
  show (S'.heap.put a b).get y=some c
  have:=w y c hy
  rw [Tr.get_put_neB _ _ _ _ trivial (by omega)];exact h.old y c hy,Nat.le_trans h.next hm,fun ww=>kS (h.wf ww) hb hm⟩
end Go.AM
namespace Go.Proofs.YtoaibmbldmckaaaGreat
open Go.AM Tryz
set_option linter.unusedVariables false
set_option linter.unusedSimpArgs false
set_option maxRecDepth 100000
theorem bOa {S0 S:St} {v:V} {l:List Part} (own:Own S0 S 4 v (l.map Part.enc)) (x:Ext S0 S) (w:WF S0) (hl:l.length≤1000) {K:KW}
  (H:∀ v' S',Ext S0 S'→Own S0 S' 4 v' ((eR l).1.parts.map Part.enc)→K (.tup [.agg [.int .i64 (eR l).1.net,.int .i64 (eR l).1.tax,.int .i64 (eR l).1.gross,v'],.int .i64 (eR l).2]) S'):C 270 [v] S K:=by
 refine bMx ?_
 have hlen:lenW v=.ok (.int .i64 (l.length:Int)):=own.sl.lenI
 have h1:=own.one
 have hlt:=own.lt
 have h2:=own.cells
 simp only [aUs,kk,h1,h2,hlen]
 have hn:=x.next
 refine aY l (step:=fS) (fin:=kL) (fun i s vs S'=>vs=[.int .i64 0,.int .i64 (i:Int)]∧Ext S0 S'∧Own S0 S' 4 v ((s.2.2++l.drop i).map Part.enc)∧s.2.2.length=i∧S.next+2≤S'.next∧aI S' S.next 0=.ok (4,[[.int .i64 0,.int .i64 0,.int .i64 0,.nils]])∧aI S' (S.next+1) 0=.ok (4,[[.int .i64 s.1,.int .i64 s.2.1,.int .i64 0,v]])) (fun r=>r=eR l) ?_ ?_ (s:=(0,0,[])) ⟨rfl,?_,?_,rfl,?_,?_,?_⟩ rfl
 ·rintro i p ⟨net,tax,done⟩ vs S' hi ⟨rfl,x',own',hd,hn',hg0,hg1⟩ aO Hq
  have hil:=(List.getElem?_eq_some_iff.1 hi).1
  obtain ⟨a,ver,hv,ha,hb,e4,hat,set1⟩:=(own'.bump 17).setK (x'.bump 17) w (i:=i) (cs:=p.enc) (by
   rw [List.getElem?_map,List.getElem?_append_right (by omega),hd,Nat.sub_self,List.getElem?_drop,Nat.add_zero,hi];rfl) .i64
  obtain ⟨S2,st1,x2,n2,own2,keep2,w2⟩:=set1 3 1 (.int .i64 (cD p.net p.bp).1) rfl rfl (by decide)
  have hav:=hlt a ver _ hv
  have hld2:=hat.load none 2
  have hld1:=hat.load none 1
  simp only [adv,kk,Part.enc] at hld1 hld2
  have hne0:a≠S.next:=by omega
  have hne1:a≠S.next+1:=by omega
  have k0:=bI (S:=⟨S'.next+17,S'.heap⟩) hg0 (keep2 S.next (Ne.symm hne0))
  have k1:=bI (S:=⟨S'.next+17,S'.heap⟩) hg1 (keep2 (S.next+1) (Ne.symm hne1))
  have hes:((done++l.drop i).map Part.enc).set i (splice p.enc 3 [.int .i64 (cD p.net p.bp).1])=((done++[{ p with tax:=(cD p.net p.bp).1 }])++l.drop (i+1)).map Part.enc:=by
   have hd':done.length=i:=hd
   rw [List.drop_eq_getElem_cons hil,(List.getElem?_eq_some_iff.1 hi).2]
   simp only [List.map_append,List.map_cons,List.map_nil,List.append_assoc,List.singleton_append]
   rw [List.set_append_right _ _ (by simp;omega)]
   simp only [List.length_map,hd',Nat.sub_self,List.set_cons_zero]
   rfl
  simp only [V.cells] at own2
  rw [hes] at own2
  have hi2:(((done++[{ p with tax:=(cD p.net p.bp).1 }])++l.drop (i+1)).map Part.enc)[i]?=some (Part.enc { p with tax:=(cD p.net p.bp).1 }):=by
   have hd':done.length=i:=hd
   rw [List.getElem?_map,List.getElem?_append_left (by simp;omega),List.getElem?_append_right (by omega),hd',Nat.sub_self];rfl
  have ow3:∀ (m:Nat) (b:Blk),S2.next≤m→Own S0 ⟨m,S2.heap.put (S.next+1) b⟩ 4 v (((done++[{ p with tax:=(cD p.net p.bp).1 }])++l.drop (i+1)).map Part.enc):=fun m b hm=>own2.put hm fun a ver m hv=>by have:=hlt a ver m hv;omega
  have ld3:∀ (m:Nat) (b:Blk) (k:Option Nat) (j:Nat),S2.next≤m→bB k (.ptr a ver i j) ⟨m,S2.heap.put (S.next+1) b⟩=gI k (Part.enc { p with tax:=(cD p.net p.bp).1 }) j:=fun m b k j hm=>(ow3 m b hm).ld hv hi2 k j
  have ld2:∀ k j,bB k (.ptr a ver i j) ⟨S2.next+13,S2.heap⟩=gI k (Part.enc { p with tax:=(cD p.net p.bp).1 }) j:=fun k j=>(own2.bump 13).ld hv hi2 k j
  have l2:=ld2 none 2
  have l3:=fun m b hm=>ld3 m b none 3 hm
  simp only [fS] at Hq
  simp only [kk,Part.enc] at l2 l3
  have hn2:S2.next=S'.next+17:=n2
  have g0:∀ (m:Nat) (b:Blk),aI ⟨m,S2.heap.put (S.next+1) b⟩ S.next 0=.ok (4,[[V.int IntKind.i64 0,V.int IntKind.i64 0,V.int IntKind.i64 0,V.nils]]):=fun m b=>by
   rw [cV _ S2.next _ _ _ _ _ (by omega)];exact k0
  have x3:∀ (m:Nat) (b:Blk),S2.next≤m→Ext S0 ⟨m,S2.heap.put (S.next+1) b⟩:=fun m b hm=>x2.put (by omega) (by omega) hm w b
  simp only [aFm,kk,dF hi,e4,hld1,hld2,bEa,aP9,fZ,st1,nH (show i<1000000000 by omega),gm,k1,l2,l3 _ _ (show S2.next≤S2.next+13+13 by omega)]
  obtain ⟨S9,hS9⟩:∃ S9:St,S9=⟨S2.next+13+13,(S2.heap.put (S.next+1) (Blk.row 0 4 [[V.int IntKind.i64 (cN net p.net).1,V.int IntKind.i64 tax,V.int IntKind.i64 0,v]])).put (S.next+1) (Blk.row 0 4 [[V.int IntKind.i64 (cN net p.net).1,V.int IntKind.i64 (cN tax (cD p.net p.bp).1).1,V.int IntKind.i64 0,v]])⟩:=⟨_,rfl⟩
  have x9:Ext S0 S9:=by rw [hS9];exact (x3 S2.next _ (Nat.le_refl _)).put (by omega) (by omega) (show S2.next≤S2.next+13+13 by omega) w _
  have o9:Own S0 S9 4 v (((done++[{ p with tax:=(cD p.net p.bp).1 }])++l.drop (i+1)).map Part.enc):=by rw [hS9];exact (ow3 S2.next _ (Nat.le_refl _)).put (show S2.next≤S2.next+13+13 by omega) fun a ver m hv=>by have:=hlt a ver m hv;omega
  have r9:aI S9 S.next 0=.ok (4,[[V.int IntKind.i64 0,V.int IntKind.i64 0,V.int IntKind.i64 0,V.nils]]):=by rw [hS9,cV _ S2.next _ _ _ _ _ (by omega)];exact g0 _ _
  have q9:aI S9 (S.next+1) 0=.ok (4,[[V.int IntKind.i64 (cN net p.net).1,V.int IntKind.i64 (cN tax (cD p.net p.bp).1).1,V.int IntKind.i64 0,v]]):=by rw [hS9];exact aR _ _ _ _ _ _
  have n9:S.next+2≤S9.next:=by rw [hS9];show _≤S2.next+13+13;omega
  rw [←hS9]
  have fail:eR l=(Total.zero,7)→rN C K aO v (V.ptr S.next 0 0 0) (V.int IntKind.i64 0) (V.ptr (S.next+1) 0 0 0) (V.int IntKind.i64 ↑l.length) (V.int IntKind.i64 ↑i) (V.bool true) S9:=by
   intro he
   have:=H .nils ⟨S9.next,S9.heap.put S.next (.row 0 4 [[.int .i64 0,.int .i64 0,.int .i64 0,.nils]])⟩ (x9.put hn (by omega) (Nat.le_refl _) w _) (by rw [he];exact Own.nil _ _ _)
   simp only [he,Total.zero] at this
   simp only [rN,kk,r9]
   exact this
  by_cases c1:(cD p.net p.bp).2=0
  ·by_cases c2:(cN net p.net).2=0
   ·simp only [c1,c2,kk,not_true_eq_false,not_false_eq_true,false_or,if_false,if_true] at Hq ⊢
    by_cases c3:(cN tax (cD p.net p.bp).1).2=0
    ·simp only [c3,kk,not_true_eq_false,if_false] at Hq ⊢
     simp only [rN,kk,nH (show i<1000000000 by omega),decide_true,decide_false,Bool.false_eq_true,if_false]
     exact Hq _ _ ⟨rfl,x9,o9,by have hd':done.length=i:=hd;simp;omega,n9,r9,q9⟩
    ·simp only [c3,kk,not_false_eq_true,if_true,decide_false] at Hq ⊢
     exact fail Hq.symm
   ·simp only [c1,c2,kk,not_true_eq_false,not_false_eq_true,false_or,true_or,if_false,if_true] at Hq ⊢
    exact fail Hq.symm
  ·simp only [c1,kk,not_false_eq_true,true_or,if_true] at Hq ⊢
   exact fail Hq.symm
 ·rintro ⟨net,tax,done⟩ vs S' ⟨rfl,x',own',hd,hn',hg0,hg1⟩ aO Hq
  rw [List.drop_length,List.append_nil] at own'
  simp only [kL] at Hq
  simp only [aFm,kk,Int.lt_irrefl,if_false,hg1,aP9,fZ]
  by_cases c:(cN net tax).2=0
  ·simp only [c,kk,not_true_eq_false,if_false] at Hq ⊢
   have hb:∀ (k:Nat) (b:Blk),aI ⟨S'.next,S'.heap.put (S.next+1) b⟩ S.next 0=.ok (4,[[V.int IntKind.i64 0,V.int IntKind.i64 0,V.int IntKind.i64 0,V.nils]]):=fun k b=>by rw [cV _ S'.next _ _ _ _ _ (by omega)];exact hg0
   simp only [hb 0,kk,h1,h2,gm]
   have x1:=x'.put (a:=S.next+1) (m:=S'.next) (by omega) (by omega) (Nat.le_refl _) w (.row 0 4 [[.int .i64 net,.int .i64 tax,.int .i64 (cN net tax).1,v]])
   have o1:=own'.put (k:=S.next+1) (m:=S'.next) (b:=.row 0 4 [[.int .i64 net,.int .i64 tax,.int .i64 (cN net tax).1,v]]) (Nat.le_refl _) fun a ver m hv=>by have:=hlt a ver m hv;omega
   have:=H v _ (x1.put (a:=S.next) (m:=S'.next) hn (by omega) (Nat.le_refl _) w (.row 0 4 [[.int .i64 net,.int .i64 tax,.int .i64 (cN net tax).1,v]])) (by rw [←Hq];exact o1.put (Nat.le_refl _) fun a ver m hv=>by have:=hlt a ver m hv;omega)
   rw [←Hq] at this
   exact this
  ·simp only [c,kk,not_false_eq_true,if_true] at Hq ⊢
   simp only [hg0,kk]
   have:=H .nils ⟨S'.next,S'.heap.put S.next (.row 0 4 [[.int .i64 0,.int .i64 0,.int .i64 0,.nils]])⟩ (x'.put hn (by omega) (Nat.le_refl _) w _) (by rw [←Hq];exact Own.nil _ _ _)
   rw [←Hq] at this
   exact this
 ·exact ((x.put (m:=S.next+1+1) hn (by omega) (by omega) w _).put (m:=S.next+1+1) (by omega) (by omega) (Nat.le_refl _) w _).put (m:=S.next+1+1) (by omega) (by omega) (Nat.le_refl _) w _
 ·rw [List.nil_append,List.drop_zero]
  have nn:∀ k,S.next≤k→∀ a ver m,v=.sl a ver 4 0 m→k≠a:=fun k hk a ver m hv=>by have:=hlt a ver m hv;omega
  exact ((own.put (m:=S.next+1+1) (by omega) (nn _ (Nat.le_refl _))).put (Nat.le_refl _) (nn _ (by omega))).put (Nat.le_refl _) (nn _ (by omega))
 ·exact Nat.le_refl _
 ·rw [cV _ S.next _ _ _ _ _ (by omega),cV _ S.next _ _ _ _ _ (by omega)];exact aR _ _ _ _ _ _
 ·exact aR _ _ _ _ _ _
end Go.Proofs.YtoaibmbldmckaaaGreat
end
section
namespace Go.AM
theorem Own.out {S0 S:St} {n:Nat} {v:V} {α:Type} {enc:α→List V} {l:List α} (h:Own S0 S n v (l.map enc)) (hc:∀ x,cloVs (enc x)=true):dK mF (pO (kU S 3) S) v=.ok (.imm (l.map enc)):=h.frz (dQ hc _)
end Go.AM
namespace Go.Proofs.YtoaibmbldmckaaaGreat
open Go.AM Tryz
set_option linter.unusedVariables false
set_option linter.unusedSimpArgs false
set_option maxRecDepth 100000
def aJo (r:Total×Int):V:=.tup [.agg [.int .i64 r.1.net,.int .i64 r.1.tax,.int .i64 r.1.gross,.imm (r.1.parts.map Part.enc)],.int .i64 r.2]
theorem bOb (tab:List Rate) (d:Date) (lines:List Line) (hll:lines.length<1000000) (S:St) (K:KW):C 238 [.imm (tab.map Rate.enc),.agg [.int .i64 d.y,.int .i64 d.m,.int .i64 d.d],.imm (lines.map Line.enc)] S K=K (aJo (dH tab d lines)) S:=by
 refine (bMh rfl ?_).eq S K
 simp only [aUc,kk,iL,g85,zH,dH,aJo]
 cases h1:fU tab
 ·simp only [h1,kk,oo,if_true,Total.zero,List.map_nil]
 cases h2:d.right
 ·simp only [h1,h2,kk,iL,oo,if_true,Bool.true_eq_false,if_false,Total.zero,List.map_nil]
 simp only [h1,h2,kk,Bool.true_eq_false,if_false,iL,zH]
 by_cases h3:lines.length=0
 ·simp only [h3,kk,iL,oo,show ((0:Nat):Int)=0 from rfl,if_true,Total.zero,List.map_nil]
 by_cases h4:12<lines.length
 ·simp only [h3,h4,kk,iL,oo,show ¬ (lines.length:Int)=0 by omega,show (12:Int)<(lines.length:Int) by omega,if_true,if_false,Total.zero,List.map_nil]
 simp only [h3,h4,kk,iL,show ¬ (lines.length:Int)=0 by omega,show ¬ (12:Int)<(lines.length:Int) by omega,if_false]
 obtain ⟨S0,hS0⟩:∃ S0:St,S0=⟨1+1,(Tr.nil.put 0 (.row 0 3 [d.enc])).put 1 (.row 0 4 [[.int .i64 0,.int .i64 0,.int .i64 0,.nils]])⟩:=⟨_,rfl⟩
 have w0:WF S0:=by rw [hS0];exact kS (n:=1) (kS pK (by decide) (by decide)) (by decide) (by decide)
 have a0:aI S0 0 0=.ok (3,[d.enc]):=by rw [hS0];rfl
 have a1:aI S0 1 0=.ok (4,[[.int .i64 0,.int .i64 0,.int .i64 0,.nils]]):=by rw [hS0];rfl
 have n0:S0.next=2:=by rw [hS0]
 simp only [Date.enc] at a0
 refine aY lines (step:=hZ tab d) (fin:=eR) (fun i s vs S=>∃ v,vs=[.int .i64 0,v,.int .i64 (i:Int)]∧Own S0 S 4 v (s.map Part.enc)∧Ext S0 S∧s.length≤i) (fun r=>r=aS (hZ tab d) eR lines []) ?_ ?_ (s:=[]) ⟨_,rfl,Own.nil _ _ _,by rw [hS0];exact Ext.refl _,Nat.le_refl _⟩ rfl
 ·rintro i l s vs S hi ⟨v,rfl,own,x,hsl⟩ aO H
  have hil:=(List.getElem?_eq_some_iff.1 hi).1
  simp only [hZ] at H
  have hn:=x.next
  have b0:=x.row a0
  have b1:=x.row a1
  have z0:((0:Nat)=S.next)=False:=by simp;omega
  have z1:((1:Nat)=S.next)=False:=by simp;omega
  have x1:Ext S0 ⟨S.next+1,(S.heap.put S.next (.row 0 4 [[.str [],.str [],.int .i64 0,.int .i64 0]])).put S.next (.row 0 4 [l.enc])⟩:=(x.put (m:=S.next+1) hn (by omega) (by omega) w0 _).put (m:=S.next+1) hn (by omega) (Nat.le_refl _) w0 _
  have nn:∀ a ver m,v=.sl a ver 4 0 m→S.next≠a:=fun a ver m hv=>by have:=own.lt a ver m hv;omega
  have o1:Own S0 ⟨S.next+1,(S.heap.put S.next (.row 0 4 [[.str [],.str [],.int .i64 0,.int .i64 0]])).put S.next (.row 0 4 [l.enc])⟩ 4 v (s.map Part.enc):=(own.put (m:=S.next+1) (by omega) nn).put (m:=S.next+1) (Nat.le_refl _) nn
  simp only [Line.enc] at x1 o1
  simp only [aFf,kk,dF hi,bAa hi,Line.enc,iL,z0,z1,gm,b0,b1,bO6,aP4]
  by_cases c1:(eZ tab d l).2.2=0
  ·simp only [c1,kk,not_true_eq_false,if_false] at H ⊢
   refine bO9 o1 x1 w0 (by omega) l.cat _ _ fun v' S' x' own'=>?_
   have b1':=x'.row a1
   by_cases c2:(pQ s l.cat (eZ tab d l).1 (eZ tab d l).2.1).2=0
   ·simp only [c2,kk,not_true_eq_false,if_false,nH (show i<1000000000 by omega)] at H ⊢
    exact H _ _ ⟨v',rfl,own',x',by have:=aHh s l.cat (eZ tab d l).1 (eZ tab d l).2.1;omega⟩
   ·simp only [c2,kk,b1',not_false_eq_true,if_true] at H ⊢
    simp only [oo,←H,Total.zero,List.map_nil]
  ·simp only [c1,kk,not_false_eq_true,if_true] at H ⊢
   simp only [oo,←H,Total.zero,List.map_nil]
 ·rintro s vs S ⟨v,rfl,own,x,hsl⟩ aO H
  simp only [aFf,kk,Int.lt_irrefl,if_false]
  refine bOa own x w0 (by omega) fun v' S' x' own'=>?_
  have b1':=x'.row a1
  have H':eR s=aS (hZ tab d) eR lines []:=H
  simp only [kk,own'.one,own'.cells,b1',←H']
  have:=(own'.put (m:=S'.next) (k:=1) (b:=.row 0 4 [[.int .i64 (eR s).1.net,.int .i64 (eR s).1.tax,.int .i64 (eR s).1.gross,v']]) (Nat.le_refl _) fun a ver m hv=>by
   rcases own'.is with ⟨rfl,_⟩ | ⟨a',ver',tl,rfl,h,_⟩
   ·cases hv
   ·cases hv;omega).out fun _=>rfl
  simp only [oo,this]
end Go.Proofs.YtoaibmbldmckaaaGreat
end
