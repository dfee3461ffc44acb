import Derived.KernelRfl
import Derived.Test.YtoaibmbldmckaaaGreatProg
import Derived.Test.YtoaibmbldmckaaaGreatX2
set_option linter.unusedSimpArgs false
set_option linter.unusedVariables false
set_option linter.unusedSectionVars false
set_option maxRecDepth 100000
section
namespace Go.Proofs.YtoaibmbldmckaaaGreat
open Go.AM Tryz
theorem aZ5 (s x:V) (fr:Option Nat) (S:St):aV prog 102 s x fr S=cQ 23 224 s x fr S:=dE (by kernel_rfl) s x fr S
theorem bC0 (s x:V) (fr:Option Nat) (S:St):aV prog 22 s x fr S=cQ 1 1 s x fr S:=dE (by kernel_rfl) s x fr S
theorem bC1 (s x:V) (fr:Option Nat) (S:St):aV prog 24 s x fr S=cQ 5 48 s x fr S:=dE (by kernel_rfl) s x fr S
theorem bC2 (s x:V) (fr:Option Nat) (S:St):aV prog 25 s x fr S=cQ 4 40 s x fr S:=dE (by kernel_rfl) s x fr S
theorem bC3 (s x:V) (fr:Option Nat) (S:St):aV prog 26 s x fr S=cQ 12 128 s x fr S:=dE (by kernel_rfl) s x fr S
theorem bC4 (s x:V) (fr:Option Nat) (S:St):aV prog 27 s x fr S=cQ 2 24 s x fr S:=dE (by kernel_rfl) s x fr S
theorem bC5 (s x:V) (fr:Option Nat) (S:St):aV prog 28 s x fr S=cQ 5 40 s x fr S:=dE (by kernel_rfl) s x fr S
theorem bC6 (s x:V) (fr:Option Nat) (S:St):aV prog 44 s x fr S=cQ 17 176 s x fr S:=dE (by kernel_rfl) s x fr S
theorem bC7 (s x:V) (fr:Option Nat) (S:St):aV prog 55 s x fr S=cQ 4 48 s x fr S:=dE (by kernel_rfl) s x fr S
theorem bC8 (s x:V) (fr:Option Nat) (S:St):aV prog 62 s x fr S=cQ 3 24 s x fr S:=dE (by kernel_rfl) s x fr S
theorem bC9 (s x:V) (fr:Option Nat) (S:St):aV prog 71 s x fr S=cQ 4 40 s x fr S:=dE (by kernel_rfl) s x fr S
theorem bCa (s x:V) (fr:Option Nat) (S:St):aV prog 80 s x fr S=cQ 4 40 s x fr S:=dE (by kernel_rfl) s x fr S
theorem bCb (s x:V) (fr:Option Nat) (S:St):aV prog 96 s x fr S=cQ 1 8 s x fr S:=dE (by kernel_rfl) s x fr S
theorem bCc (s x:V) (fr:Option Nat) (S:St):aV prog 97 s x fr S=cQ 23 224 s x fr S:=dE (by kernel_rfl) s x fr S
theorem bCd (parts:List (Nat×V)):aR prog 126 parts=bM [.str [],.int .i64 0,.int .i64 0,.bool false] [(0,1),(1,1),(2,1),(3,1)] parts:=bX (by kernel_rfl) parts
theorem bCe (parts:List (Nat×V)):aR prog 132 parts=bM [.int .i64 0,.int .i64 0,.int .i64 0,.int .i64 0,.int .i64 0] [(0,1),(1,1),(2,3)] parts:=bX (by kernel_rfl) parts
theorem bCf (parts:List (Nat×V)):aR prog 142 parts=bM [.nils,.int .i64 0,.int .i64 0] [(0,1),(1,1),(2,1)] parts:=bX (by kernel_rfl) parts
theorem bCg (parts:List (Nat×V)):aR prog 145 parts=bM [.str [],.int .i64 0,.int .i64 0,.int .i64 0] [(0,1),(1,1),(2,1),(3,1)] parts:=bX (by kernel_rfl) parts
theorem bCh (parts:List (Nat×V)):aR prog 160 parts=bM [.nils] [(0,1)] parts:=bX (by kernel_rfl) parts
theorem bCi (parts:List (Nat×V)):aR prog 201 parts=bM [.str [],.str [],.int .i64 0,.int .i64 0] [(0,1),(1,1),(2,1),(3,1)] parts:=bX (by kernel_rfl) parts
theorem bCj (parts:List (Nat×V)):aR prog 207 parts=bM [.int .i64 0,.int .i64 0,.int .i64 0,.str [],.int .i64 0,.str [],.int .i64 0,.int .i64 0,.int .i64 0,.int .i64 0,.int .i64 0,.int .i64 0,.int .i64 0,.nils,.str [],.int .i64 0,.int .i64 0,.int .i64 0,.int .i64 0,.int .i64 0,.int .i64 0,.int .i64 0,.int .i64 0] [(0,17),(17,1),(18,1),(19,1),(20,3)] parts:=bX (by kernel_rfl) parts
theorem bCk (parts:List (Nat×V)):aR prog 212 parts=bM [.nili] [(0,1)] parts:=bX (by kernel_rfl) parts
theorem bCl (parts:List (Nat×V)):aR prog 225 parts=bM [.nils,.int .i64 0,.int .i64 0] [(0,1),(1,1),(2,1)] parts:=bX (by kernel_rfl) parts
theorem bCm (parts:List (Nat×V)):aR prog 287 parts=bM [.nils,.bool false] [(0,1),(1,1)] parts:=bX (by kernel_rfl) parts
theorem bHd (parts:List (Nat×V)):aR prog 30 parts=bM [.nils,.nils,.nils,.nils,.nils,.int .i64 0] [(0,1),(1,1),(2,1),(3,1),(4,1),(5,1)] parts:=bX (by kernel_rfl) parts
theorem bCn (parts:List (Nat×V)):aR prog 346 parts=bM [.int .i64 0,.int .u64 0] [(0,1),(1,1)] parts:=bX (by kernel_rfl) parts
theorem bHe (parts:List (Nat×V)):aR prog 48 parts=bM [.int .i64 0,.int .i64 0,.int .i64 0] [(0,1),(1,1),(2,1)] parts:=bX (by kernel_rfl) parts
theorem bHf (parts:List (Nat×V)):aR prog 52 parts=bM [.int .i64 0,.int .i64 0,.int .i64 0] [(0,1),(1,1),(2,1)] parts:=bX (by kernel_rfl) parts
theorem bHg (parts:List (Nat×V)):aR prog 54 parts=bM [.str [],.int .i64 0,.int .i64 0,.int .i64 0,.int .i64 0] [(0,1),(1,3),(4,1)] parts:=bX (by kernel_rfl) parts
theorem bHh (parts:List (Nat×V)):aR prog 57 parts=bM [.str [],.int .i64 0] [(0,1),(1,1)] parts:=bX (by kernel_rfl) parts
theorem bHi (parts:List (Nat×V)):aR prog 59 parts=bM [.int .i64 0,.str [],.int .i64 0,.str [],.int .i64 0,.int .i64 0,.int .i64 0,.int .i64 0,.int .i64 0,.int .i64 0,.int .i64 0,.nils,.str [],.int .i64 0,.int .i64 0] [(0,1),(1,1),(2,1),(3,5),(8,3),(11,1),(12,2),(14,1)] parts:=bX (by kernel_rfl) parts
theorem bHj (parts:List (Nat×V)):aR prog 61 parts=bM [.int .i64 0,.int .i64 0,.int .i64 0,.str [],.int .i64 0,.str [],.int .i64 0,.int .i64 0,.int .i64 0,.int .i64 0,.int .i64 0,.int .i64 0,.int .i64 0,.nils,.str [],.int .i64 0,.int .i64 0] [(0,1),(1,1),(2,15)] parts:=bX (by kernel_rfl) parts
theorem bHk (parts:List (Nat×V)):aR prog 76 parts=bM [.str [],.int .i64 0,.int .i64 0,.int .i64 0] [(0,1),(1,1),(2,1),(3,1)] parts:=bX (by kernel_rfl) parts
theorem bHl (parts:List (Nat×V)):aR prog 77 parts=bM [.str [],.int .i64 0,.int .i64 0,.int .i64 0] [(0,1),(1,1),(2,1),(3,1)] parts:=bX (by kernel_rfl) parts
theorem bHm (parts:List (Nat×V)):aR prog 82 parts=bM [.int .i64 0,.int .i64 0,.int .i64 0,.nils] [(0,1),(1,1),(2,1),(3,1)] parts:=bX (by kernel_rfl) parts
theorem bHn (parts:List (Nat×V)):aR prog 84 parts=bM [.str [],.int .i64 0,.int .i64 0,.int .i64 0,.int .i64 0,.int .i64 0,.int .i64 0,.int .i64 0,.nils,.str [],.int .i64 0,.bool false] [(0,2),(2,3),(5,4),(9,2),(11,1)] parts:=bX (by kernel_rfl) parts
theorem bHo (parts:List (Nat×V)):aR prog 90 parts=bM [.str [],.int .i64 0] [(0,1),(1,1)] parts:=bX (by kernel_rfl) parts
theorem bHp (parts:List (Nat×V)):aR prog 99 parts=bM [.int .i64 0,.int .i64 0,.int .i64 0,.str [],.int .i64 0,.str [],.int .i64 0,.int .i64 0,.int .i64 0,.int .i64 0,.int .i64 0,.int .i64 0,.int .i64 0,.nils,.str [],.int .i64 0,.int .i64 0,.int .i64 0,.int .i64 0,.int .i64 0,.int .i64 0,.int .i64 0,.int .i64 0] [(0,17),(17,1),(18,1),(19,1),(20,3)] parts:=bX (by kernel_rfl) parts
theorem bCo (len:Nat) (parts:List (Nat×V)) (fr:Option Nat) (S:St):aK prog 102 len parts fr S=aP 23 [.int .i64 0,.int .i64 0,.int .i64 0,.str [],.int .i64 0,.str [],.int .i64 0,.int .i64 0,.int .i64 0,.int .i64 0,.int .i64 0,.int .i64 0,.int .i64 0,.nils,.str [],.int .i64 0,.int .i64 0,.int .i64 0,.int .i64 0,.int .i64 0,.int .i64 0,.int .i64 0,.int .i64 0] len parts fr S:=bN (by kernel_rfl) len parts fr S
theorem bHq (len:Nat) (parts:List (Nat×V)) (fr:Option Nat) (S:St):aK prog 22 len parts fr S=aP 1 [.int .u8 0] len parts fr S:=bN (by kernel_rfl) len parts fr S
theorem bHr (len:Nat) (parts:List (Nat×V)) (fr:Option Nat) (S:St):aK prog 24 len parts fr S=aP 5 [.str [],.int .i64 0,.int .i64 0,.int .i64 0,.int .i64 0] len parts fr S:=bN (by kernel_rfl) len parts fr S
theorem bHs (len:Nat) (parts:List (Nat×V)) (fr:Option Nat) (S:St):aK prog 25 len parts fr S=aP 4 [.str [],.int .i64 0,.int .i64 0,.bool false] len parts fr S:=bN (by kernel_rfl) len parts fr S
theorem bHt (len:Nat) (parts:List (Nat×V)) (fr:Option Nat) (S:St):aK prog 26 len parts fr S=aP 12 [.str [],.int .i64 0,.int .i64 0,.int .i64 0,.int .i64 0,.int .i64 0,.int .i64 0,.int .i64 0,.nils,.str [],.int .i64 0,.bool false] len parts fr S:=bN (by kernel_rfl) len parts fr S
theorem bHu (len:Nat) (parts:List (Nat×V)) (fr:Option Nat) (S:St):aK prog 27 len parts fr S=aP 2 [.str [],.int .i64 0] len parts fr S:=bN (by kernel_rfl) len parts fr S
theorem bHv (len:Nat) (parts:List (Nat×V)) (fr:Option Nat) (S:St):aK prog 28 len parts fr S=aP 5 [.int .i64 0,.int .i64 0,.int .i64 0,.int .i64 0,.int .i64 0] len parts fr S:=bN (by kernel_rfl) len parts fr S
theorem bCp (len:Nat) (parts:List (Nat×V)) (fr:Option Nat) (S:St):aK prog 361 len parts fr S=aP 1 [.nilp] len parts fr S:=bN (by kernel_rfl) len parts fr S
theorem bCq (len:Nat) (parts:List (Nat×V)) (fr:Option Nat) (S:St):aK prog 364 len parts fr S=aP 1 [.str []] len parts fr S:=bN (by kernel_rfl) len parts fr S
theorem bHw (len:Nat) (parts:List (Nat×V)) (fr:Option Nat) (S:St):aK prog 44 len parts fr S=aP 17 [.int .i64 0,.int .i64 0,.int .i64 0,.str [],.int .i64 0,.str [],.int .i64 0,.int .i64 0,.int .i64 0,.int .i64 0,.int .i64 0,.int .i64 0,.int .i64 0,.nils,.str [],.int .i64 0,.int .i64 0] len parts fr S:=bN (by kernel_rfl) len parts fr S
theorem bHx (len:Nat) (parts:List (Nat×V)) (fr:Option Nat) (S:St):aK prog 55 len parts fr S=aP 4 [.str [],.str [],.int .i64 0,.int .i64 0] len parts fr S:=bN (by kernel_rfl) len parts fr S
theorem bHy (len:Nat) (parts:List (Nat×V)) (fr:Option Nat) (S:St):aK prog 62 len parts fr S=aP 3 [.int .i64 0,.int .i64 0,.int .i64 0] len parts fr S:=bN (by kernel_rfl) len parts fr S
theorem bHz (len:Nat) (parts:List (Nat×V)) (fr:Option Nat) (S:St):aK prog 68 len parts fr S=aP 4 [.str [],.int .i64 0,.int .i64 0,.int .i64 0] len parts fr S:=bN (by kernel_rfl) len parts fr S
theorem bI0 (len:Nat) (parts:List (Nat×V)) (fr:Option Nat) (S:St):aK prog 71 len parts fr S=aP 4 [.str [],.int .i64 0,.int .i64 0,.int .i64 0] len parts fr S:=bN (by kernel_rfl) len parts fr S
theorem bI1 (len:Nat) (parts:List (Nat×V)) (fr:Option Nat) (S:St):aK prog 80 len parts fr S=aP 4 [.str [],.int .i64 0,.int .i64 0,.int .i64 0] len parts fr S:=bN (by kernel_rfl) len parts fr S
theorem bI2 (len:Nat) (parts:List (Nat×V)) (fr:Option Nat) (S:St):aK prog 96 len parts fr S=aP 1 [.int .i64 0] len parts fr S:=bN (by kernel_rfl) len parts fr S
theorem bI3 (len:Nat) (parts:List (Nat×V)) (fr:Option Nat) (S:St):aK prog 97 len parts fr S=aP 23 [.int .i64 0,.int .i64 0,.int .i64 0,.str [],.int .i64 0,.str [],.int .i64 0,.int .i64 0,.int .i64 0,.int .i64 0,.int .i64 0,.int .i64 0,.int .i64 0,.nils,.str [],.int .i64 0,.int .i64 0,.int .i64 0,.int .i64 0,.int .i64 0,.int .i64 0,.int .i64 0,.int .i64 0] len parts fr S:=bN (by kernel_rfl) len parts fr S
theorem aVs (j:IntKind) (n:Int) (fr:Option Nat) (S:St):bH prog 229 3 (.int j n) fr S=.ok (.int .i64 (wr .i64 n),S):=kO (by kernel_rfl) j n fr S
theorem aVt (j:IntKind) (n:Int) (fr:Option Nat) (S:St):bH prog 229 5 (.int j n) fr S=.ok (.int .u8 (wr .u8 n),S):=kO (by kernel_rfl) j n fr S
theorem aVu (j:IntKind) (n:Int) (fr:Option Nat) (S:St):bH prog 3 229 (.int j n) fr S=.ok (.int .u64 (wr .u64 n),S):=kO (by kernel_rfl) j n fr S
theorem aVv (j:IntKind) (n:Int) (fr:Option Nat) (S:St):bH prog 3 231 (.int j n) fr S=.ok (.int .u64 (wr .u64 n),S):=kO (by kernel_rfl) j n fr S
theorem aVw (j:IntKind) (n:Int) (fr:Option Nat) (S:St):bH prog 5 229 (.int j n) fr S=.ok (.int .u64 (wr .u64 n),S):=kO (by kernel_rfl) j n fr S
theorem aZ6:(fun (a_0:List UInt8) (a_1:Int) (a_2:Int) (a_3:Bool) (b_0:List UInt8) (b_1:Int) (b_2:Int) (b_3:Bool)=>mJ prog 100 126 (.agg [.str a_0,.int .i64 a_1,.int .i64 a_2,.bool a_3]) (.agg [.str b_0,.int .i64 b_1,.int .i64 b_2,.bool b_3]))=fun a_0 a_1 a_2 a_3 b_0 b_1 b_2 b_3=>(fA (.ok (oW a_0 b_0)) (fA (.ok (decide (a_1=b_1))) (fA (.ok (decide (a_2=b_2))) (fA (.ok (a_3 == b_3)) (.ok true))))):=by kernel_rfl
theorem bCr (a_0:List UInt8) (a_1:Int) (a_2:Int) (a_3:Bool) (b_0:List UInt8) (b_1:Int) (b_2:Int) (b_3:Bool):mJ prog 100 126 (.agg [.str a_0,.int .i64 a_1,.int .i64 a_2,.bool a_3]) (.agg [.str b_0,.int .i64 b_1,.int .i64 b_2,.bool b_3])=.ok ((a_0 == b_0)&&decide (a_1=b_1)&&decide (a_2=b_2)&&(a_3 == b_3)):=by
 refine (congrFun (congrFun (congrFun (congrFun (congrFun (congrFun (congrFun (congrFun aZ6 a_0) a_1) a_2) a_3) b_0) b_1) b_2) b_3).trans ?_
 simp only [iV,dJ,Bool.and_true,Bool.and_assoc]
theorem bCs:(fun a b=>aL prog 126 (.agg a) (.agg b))=fun _ _=>true:=by kernel_rfl
theorem aZ7:(fun (a_0:Int) (a_1:Int) (a_2_0:Int) (a_2_1:Int) (a_2_2:Int) (b_0:Int) (b_1:Int) (b_2_0:Int) (b_2_1:Int) (b_2_2:Int)=>mJ prog 100 132 (.agg [.int .i64 a_0,.int .i64 a_1,.int .i64 a_2_0,.int .i64 a_2_1,.int .i64 a_2_2]) (.agg [.int .i64 b_0,.int .i64 b_1,.int .i64 b_2_0,.int .i64 b_2_1,.int .i64 b_2_2]))=fun a_0 a_1 a_2_0 a_2_1 a_2_2 b_0 b_1 b_2_0 b_2_1 b_2_2=>(fA (.ok (decide (a_0=b_0))) (fA (.ok (decide (a_1=b_1))) (fA (fA (.ok (decide (a_2_0=b_2_0))) (fA (.ok (decide (a_2_1=b_2_1))) (fA (.ok (decide (a_2_2=b_2_2))) (.ok true)))) (.ok true)))):=by kernel_rfl
theorem bCt (a_0:Int) (a_1:Int) (a_2_0:Int) (a_2_1:Int) (a_2_2:Int) (b_0:Int) (b_1:Int) (b_2_0:Int) (b_2_1:Int) (b_2_2:Int):mJ prog 100 132 (.agg [.int .i64 a_0,.int .i64 a_1,.int .i64 a_2_0,.int .i64 a_2_1,.int .i64 a_2_2]) (.agg [.int .i64 b_0,.int .i64 b_1,.int .i64 b_2_0,.int .i64 b_2_1,.int .i64 b_2_2])=.ok (decide (a_0=b_0)&&decide (a_1=b_1)&&decide (a_2_0=b_2_0)&&decide (a_2_1=b_2_1)&&decide (a_2_2=b_2_2)):=by
 refine (congrFun (congrFun (congrFun (congrFun (congrFun (congrFun (congrFun (congrFun (congrFun (congrFun aZ7 a_0) a_1) a_2_0) a_2_1) a_2_2) b_0) b_1) b_2_0) b_2_1) b_2_2).trans ?_
 simp only [iV,dJ,Bool.and_true,Bool.and_assoc]
theorem bCu:(fun a b=>aL prog 132 (.agg a) (.agg b))=fun _ _=>true:=by kernel_rfl
theorem aZ8:(fun (a_0:List UInt8) (a_1:Int) (a_2:Int) (a_3:Int) (b_0:List UInt8) (b_1:Int) (b_2:Int) (b_3:Int)=>mJ prog 100 145 (.agg [.str a_0,.int .i64 a_1,.int .i64 a_2,.int .i64 a_3]) (.agg [.str b_0,.int .i64 b_1,.int .i64 b_2,.int .i64 b_3]))=fun a_0 a_1 a_2 a_3 b_0 b_1 b_2 b_3=>(fA (.ok (oW a_0 b_0)) (fA (.ok (decide (a_1=b_1))) (fA (.ok (decide (a_2=b_2))) (fA (.ok (decide (a_3=b_3))) (.ok true))))):=by kernel_rfl
theorem bCv (a_0:List UInt8) (a_1:Int) (a_2:Int) (a_3:Int) (b_0:List UInt8) (b_1:Int) (b_2:Int) (b_3:Int):mJ prog 100 145 (.agg [.str a_0,.int .i64 a_1,.int .i64 a_2,.int .i64 a_3]) (.agg [.str b_0,.int .i64 b_1,.int .i64 b_2,.int .i64 b_3])=.ok ((a_0 == b_0)&&decide (a_1=b_1)&&decide (a_2=b_2)&&decide (a_3=b_3)):=by
 refine (congrFun (congrFun (congrFun (congrFun (congrFun (congrFun (congrFun (congrFun aZ8 a_0) a_1) a_2) a_3) b_0) b_1) b_2) b_3).trans ?_
 simp only [iV,dJ,Bool.and_true,Bool.and_assoc]
theorem bCw:(fun a b=>aL prog 145 (.agg a) (.agg b))=fun _ _=>true:=by kernel_rfl
theorem aZ9:(fun (a_0:List UInt8) (a_1:List UInt8) (a_2:Int) (a_3:Int) (b_0:List UInt8) (b_1:List UInt8) (b_2:Int) (b_3:Int)=>mJ prog 100 201 (.agg [.str a_0,.str a_1,.int .i64 a_2,.int .i64 a_3]) (.agg [.str b_0,.str b_1,.int .i64 b_2,.int .i64 b_3]))=fun a_0 a_1 a_2 a_3 b_0 b_1 b_2 b_3=>(fA (.ok (oW a_0 b_0)) (fA (.ok (oW a_1 b_1)) (fA (.ok (decide (a_2=b_2))) (fA (.ok (decide (a_3=b_3))) (.ok true))))):=by kernel_rfl
theorem bCx (a_0:List UInt8) (a_1:List UInt8) (a_2:Int) (a_3:Int) (b_0:List UInt8) (b_1:List UInt8) (b_2:Int) (b_3:Int):mJ prog 100 201 (.agg [.str a_0,.str a_1,.int .i64 a_2,.int .i64 a_3]) (.agg [.str b_0,.str b_1,.int .i64 b_2,.int .i64 b_3])=.ok ((a_0 == b_0)&&(a_1 == b_1)&&decide (a_2=b_2)&&decide (a_3=b_3)):=by
 refine (congrFun (congrFun (congrFun (congrFun (congrFun (congrFun (congrFun (congrFun aZ9 a_0) a_1) a_2) a_3) b_0) b_1) b_2) b_3).trans ?_
 simp only [iV,dJ,Bool.and_true,Bool.and_assoc]
theorem bCy:(fun a b=>aL prog 201 (.agg a) (.agg b))=fun _ _=>true:=by kernel_rfl
theorem aZa:(fun (a_0:Int) (a_1:Int) (b_0:Int) (b_1:Int)=>mJ prog 100 346 (.agg [.int .i64 a_0,.int .u64 a_1]) (.agg [.int .i64 b_0,.int .u64 b_1]))=fun a_0 a_1 b_0 b_1=>(fA (.ok (decide (a_0=b_0))) (fA (.ok (decide (a_1=b_1))) (.ok true))):=by kernel_rfl
theorem bCz (a_0:Int) (a_1:Int) (b_0:Int) (b_1:Int):mJ prog 100 346 (.agg [.int .i64 a_0,.int .u64 a_1]) (.agg [.int .i64 b_0,.int .u64 b_1])=.ok (decide (a_0=b_0)&&decide (a_1=b_1)):=by
 refine (congrFun (congrFun (congrFun (congrFun aZa a_0) a_1) b_0) b_1).trans ?_
 simp only [iV,dJ,Bool.and_true,Bool.and_assoc]
theorem bD0:(fun a b=>aL prog 346 (.agg a) (.agg b))=fun _ _=>true:=by kernel_rfl
theorem bD1:(fun (a_0:Int) (a_1:Int) (a_2:Int) (b_0:Int) (b_1:Int) (b_2:Int)=>mJ prog 100 48 (.agg [.int .i64 a_0,.int .i64 a_1,.int .i64 a_2]) (.agg [.int .i64 b_0,.int .i64 b_1,.int .i64 b_2]))=fun a_0 a_1 a_2 b_0 b_1 b_2=>(fA (.ok (decide (a_0=b_0))) (fA (.ok (decide (a_1=b_1))) (fA (.ok (decide (a_2=b_2))) (.ok true)))):=by kernel_rfl
theorem bI4 (a_0:Int) (a_1:Int) (a_2:Int) (b_0:Int) (b_1:Int) (b_2:Int):mJ prog 100 48 (.agg [.int .i64 a_0,.int .i64 a_1,.int .i64 a_2]) (.agg [.int .i64 b_0,.int .i64 b_1,.int .i64 b_2])=.ok (decide (a_0=b_0)&&decide (a_1=b_1)&&decide (a_2=b_2)):=by
 refine (congrFun (congrFun (congrFun (congrFun (congrFun (congrFun bD1 a_0) a_1) a_2) b_0) b_1) b_2).trans ?_
 simp only [iV,dJ,Bool.and_true,Bool.and_assoc]
theorem bI5:(fun a b=>aL prog 48 (.agg a) (.agg b))=fun _ _=>true:=by kernel_rfl
theorem bD2:(fun (a_0:Int) (a_1:Int) (a_2:Int) (b_0:Int) (b_1:Int) (b_2:Int)=>mJ prog 100 52 (.agg [.int .i64 a_0,.int .i64 a_1,.int .i64 a_2]) (.agg [.int .i64 b_0,.int .i64 b_1,.int .i64 b_2]))=fun a_0 a_1 a_2 b_0 b_1 b_2=>(fA (.ok (decide (a_0=b_0))) (fA (.ok (decide (a_1=b_1))) (fA (.ok (decide (a_2=b_2))) (.ok true)))):=by kernel_rfl
theorem bI6 (a_0:Int) (a_1:Int) (a_2:Int) (b_0:Int) (b_1:Int) (b_2:Int):mJ prog 100 52 (.agg [.int .i64 a_0,.int .i64 a_1,.int .i64 a_2]) (.agg [.int .i64 b_0,.int .i64 b_1,.int .i64 b_2])=.ok (decide (a_0=b_0)&&decide (a_1=b_1)&&decide (a_2=b_2)):=by
 refine (congrFun (congrFun (congrFun (congrFun (congrFun (congrFun bD2 a_0) a_1) a_2) b_0) b_1) b_2).trans ?_
 simp only [iV,dJ,Bool.and_true,Bool.and_assoc]
theorem bI7:(fun a b=>aL prog 52 (.agg a) (.agg b))=fun _ _=>true:=by kernel_rfl
theorem bD3:(fun (a_0:List UInt8) (a_1_0:Int) (a_1_1:Int) (a_1_2:Int) (a_2:Int) (b_0:List UInt8) (b_1_0:Int) (b_1_1:Int) (b_1_2:Int) (b_2:Int)=>mJ prog 100 54 (.agg [.str a_0,.int .i64 a_1_0,.int .i64 a_1_1,.int .i64 a_1_2,.int .i64 a_2]) (.agg [.str b_0,.int .i64 b_1_0,.int .i64 b_1_1,.int .i64 b_1_2,.int .i64 b_2]))=fun a_0 a_1_0 a_1_1 a_1_2 a_2 b_0 b_1_0 b_1_1 b_1_2 b_2=>(fA (.ok (oW a_0 b_0)) (fA (fA (.ok (decide (a_1_0=b_1_0))) (fA (.ok (decide (a_1_1=b_1_1))) (fA (.ok (decide (a_1_2=b_1_2))) (.ok true)))) (fA (.ok (decide (a_2=b_2))) (.ok true)))):=by kernel_rfl
theorem bI8 (a_0:List UInt8) (a_1_0:Int) (a_1_1:Int) (a_1_2:Int) (a_2:Int) (b_0:List UInt8) (b_1_0:Int) (b_1_1:Int) (b_1_2:Int) (b_2:Int):mJ prog 100 54 (.agg [.str a_0,.int .i64 a_1_0,.int .i64 a_1_1,.int .i64 a_1_2,.int .i64 a_2]) (.agg [.str b_0,.int .i64 b_1_0,.int .i64 b_1_1,.int .i64 b_1_2,.int .i64 b_2])=.ok ((a_0 == b_0)&&decide (a_1_0=b_1_0)&&decide (a_1_1=b_1_1)&&decide (a_1_2=b_1_2)&&decide (a_2=b_2)):=by
 refine (congrFun (congrFun (congrFun (congrFun (congrFun (congrFun (congrFun (congrFun (congrFun (congrFun bD3 a_0) a_1_0) a_1_1) a_1_2) a_2) b_0) b_1_0) b_1_1) b_1_2) b_2).trans ?_
 simp only [iV,dJ,Bool.and_true,Bool.and_assoc]
theorem bI9:(fun a b=>aL prog 54 (.agg a) (.agg b))=fun _ _=>true:=by kernel_rfl
theorem bD4:(fun (a_0:List UInt8) (a_1:Int) (b_0:List UInt8) (b_1:Int)=>mJ prog 100 57 (.agg [.str a_0,.int .i64 a_1]) (.agg [.str b_0,.int .i64 b_1]))=fun a_0 a_1 b_0 b_1=>(fA (.ok (oW a_0 b_0)) (fA (.ok (decide (a_1=b_1))) (.ok true))):=by kernel_rfl
theorem bIa (a_0:List UInt8) (a_1:Int) (b_0:List UInt8) (b_1:Int):mJ prog 100 57 (.agg [.str a_0,.int .i64 a_1]) (.agg [.str b_0,.int .i64 b_1])=.ok ((a_0 == b_0)&&decide (a_1=b_1)):=by
 refine (congrFun (congrFun (congrFun (congrFun bD4 a_0) a_1) b_0) b_1).trans ?_
 simp only [iV,dJ,Bool.and_true,Bool.and_assoc]
theorem bIb:(fun a b=>aL prog 57 (.agg a) (.agg b))=fun _ _=>true:=by kernel_rfl
theorem bD5:(fun (a_0:List UInt8) (a_1:Int) (a_2:Int) (a_3:Int) (b_0:List UInt8) (b_1:Int) (b_2:Int) (b_3:Int)=>mJ prog 100 76 (.agg [.str a_0,.int .i64 a_1,.int .i64 a_2,.int .i64 a_3]) (.agg [.str b_0,.int .i64 b_1,.int .i64 b_2,.int .i64 b_3]))=fun a_0 a_1 a_2 a_3 b_0 b_1 b_2 b_3=>(fA (.ok (oW a_0 b_0)) (fA (.ok (decide (a_1=b_1))) (fA (.ok (decide (a_2=b_2))) (fA (.ok (decide (a_3=b_3))) (.ok true))))):=by kernel_rfl
theorem bIc (a_0:List UInt8) (a_1:Int) (a_2:Int) (a_3:Int) (b_0:List UInt8) (b_1:Int) (b_2:Int) (b_3:Int):mJ prog 100 76 (.agg [.str a_0,.int .i64 a_1,.int .i64 a_2,.int .i64 a_3]) (.agg [.str b_0,.int .i64 b_1,.int .i64 b_2,.int .i64 b_3])=.ok ((a_0 == b_0)&&decide (a_1=b_1)&&decide (a_2=b_2)&&decide (a_3=b_3)):=by
 refine (congrFun (congrFun (congrFun (congrFun (congrFun (congrFun (congrFun (congrFun bD5 a_0) a_1) a_2) a_3) b_0) b_1) b_2) b_3).trans ?_
 simp only [iV,dJ,Bool.and_true,Bool.and_assoc]
theorem bId:(fun a b=>aL prog 76 (.agg a) (.agg b))=fun _ _=>true:=by kernel_rfl
theorem bD6:(fun (a_0:List UInt8) (a_1:Int) (b_0:List UInt8) (b_1:Int)=>mJ prog 100 90 (.agg [.str a_0,.int .i64 a_1]) (.agg [.str b_0,.int .i64 b_1]))=fun a_0 a_1 b_0 b_1=>(fA (.ok (oW a_0 b_0)) (fA (.ok (decide (a_1=b_1))) (.ok true))):=by kernel_rfl
theorem bIe (a_0:List UInt8) (a_1:Int) (b_0:List UInt8) (b_1:Int):mJ prog 100 90 (.agg [.str a_0,.int .i64 a_1]) (.agg [.str b_0,.int .i64 b_1])=.ok ((a_0 == b_0)&&decide (a_1=b_1)):=by
 refine (congrFun (congrFun (congrFun (congrFun bD6 a_0) a_1) b_0) b_1).trans ?_
 simp only [iV,dJ,Bool.and_true,Bool.and_assoc]
theorem bIf:(fun a b=>aL prog 90 (.agg a) (.agg b))=fun _ _=>true:=by kernel_rfl
theorem aVx (p:V):aA prog 126 p 0=advW 0 p:=aF (by kernel_rfl) p
theorem aVy (p:V):aA prog 126 p 1=advW 1 p:=aF (by kernel_rfl) p
theorem aVz (p:V):aA prog 126 p 2=advW 2 p:=aF (by kernel_rfl) p
theorem aW0 (p:V):aA prog 126 p 3=advW 3 p:=aF (by kernel_rfl) p
theorem aW1 (p:V):aA prog 132 p 0=advW 0 p:=aF (by kernel_rfl) p
theorem aW2 (p:V):aA prog 132 p 1=advW 1 p:=aF (by kernel_rfl) p
theorem aW3 (p:V):aA prog 132 p 2=advW 2 p:=aF (by kernel_rfl) p
theorem aW4 (p:V):aA prog 142 p 0=advW 0 p:=aF (by kernel_rfl) p
theorem aW5 (p:V):aA prog 142 p 1=advW 1 p:=aF (by kernel_rfl) p
theorem aW6 (p:V):aA prog 142 p 2=advW 2 p:=aF (by kernel_rfl) p
theorem aW7 (p:V):aA prog 145 p 0=advW 0 p:=aF (by kernel_rfl) p
theorem aW8 (p:V):aA prog 145 p 1=advW 1 p:=aF (by kernel_rfl) p
theorem aW9 (p:V):aA prog 145 p 2=advW 2 p:=aF (by kernel_rfl) p
theorem aWa (p:V):aA prog 145 p 3=advW 3 p:=aF (by kernel_rfl) p
theorem aWb (p:V):aA prog 160 p 0=advW 0 p:=aF (by kernel_rfl) p
theorem aWc (p:V):aA prog 201 p 0=advW 0 p:=aF (by kernel_rfl) p
theorem aWd (p:V):aA prog 201 p 1=advW 1 p:=aF (by kernel_rfl) p
theorem aWe (p:V):aA prog 201 p 2=advW 2 p:=aF (by kernel_rfl) p
theorem aWf (p:V):aA prog 201 p 3=advW 3 p:=aF (by kernel_rfl) p
theorem aWg (p:V):aA prog 207 p 0=advW 0 p:=aF (by kernel_rfl) p
theorem aWh (p:V):aA prog 207 p 1=advW 17 p:=aF (by kernel_rfl) p
theorem aWi (p:V):aA prog 207 p 2=advW 18 p:=aF (by kernel_rfl) p
theorem aWj (p:V):aA prog 207 p 3=advW 19 p:=aF (by kernel_rfl) p
theorem aWk (p:V):aA prog 207 p 4=advW 20 p:=aF (by kernel_rfl) p
theorem aWl (p:V):aA prog 220 p 1=advW 1 p:=aF (by kernel_rfl) p
theorem aWm (p:V):aA prog 220 p 2=advW 2 p:=aF (by kernel_rfl) p
theorem aWn (p:V):aA prog 225 p 0=advW 0 p:=aF (by kernel_rfl) p
theorem aWo (p:V):aA prog 225 p 1=advW 1 p:=aF (by kernel_rfl) p
theorem aWp (p:V):aA prog 225 p 2=advW 2 p:=aF (by kernel_rfl) p
theorem aWq (p:V):aA prog 287 p 0=advW 0 p:=aF (by kernel_rfl) p
theorem aWr (p:V):aA prog 287 p 1=advW 1 p:=aF (by kernel_rfl) p
theorem aZb (p:V):aA prog 30 p 0=advW 0 p:=aF (by kernel_rfl) p
theorem aZc (p:V):aA prog 30 p 1=advW 1 p:=aF (by kernel_rfl) p
theorem aZd (p:V):aA prog 30 p 2=advW 2 p:=aF (by kernel_rfl) p
theorem aZe (p:V):aA prog 30 p 3=advW 3 p:=aF (by kernel_rfl) p
theorem aZf (p:V):aA prog 30 p 4=advW 4 p:=aF (by kernel_rfl) p
theorem aZg (p:V):aA prog 30 p 5=advW 5 p:=aF (by kernel_rfl) p
theorem aWs (p:V):aA prog 346 p 0=advW 0 p:=aF (by kernel_rfl) p
theorem aWt (p:V):aA prog 346 p 1=advW 1 p:=aF (by kernel_rfl) p
theorem aZh (p:V):aA prog 48 p 0=advW 0 p:=aF (by kernel_rfl) p
theorem aZi (p:V):aA prog 48 p 1=advW 1 p:=aF (by kernel_rfl) p
theorem aZj (p:V):aA prog 48 p 2=advW 2 p:=aF (by kernel_rfl) p
theorem aZk (p:V):aA prog 52 p 0=advW 0 p:=aF (by kernel_rfl) p
theorem aZl (p:V):aA prog 52 p 1=advW 1 p:=aF (by kernel_rfl) p
theorem aZm (p:V):aA prog 52 p 2=advW 2 p:=aF (by kernel_rfl) p
theorem aZn (p:V):aA prog 54 p 0=advW 0 p:=aF (by kernel_rfl) p
theorem aZo (p:V):aA prog 54 p 1=advW 1 p:=aF (by kernel_rfl) p
theorem aZp (p:V):aA prog 54 p 2=advW 4 p:=aF (by kernel_rfl) p
theorem aZq (p:V):aA prog 57 p 0=advW 0 p:=aF (by kernel_rfl) p
theorem aZr (p:V):aA prog 57 p 1=advW 1 p:=aF (by kernel_rfl) p
theorem aZs (p:V):aA prog 59 p 0=advW 0 p:=aF (by kernel_rfl) p
theorem aZt (p:V):aA prog 59 p 1=advW 1 p:=aF (by kernel_rfl) p
theorem aZu (p:V):aA prog 59 p 2=advW 2 p:=aF (by kernel_rfl) p
theorem aZv (p:V):aA prog 59 p 3=advW 3 p:=aF (by kernel_rfl) p
theorem aZw (p:V):aA prog 59 p 4=advW 8 p:=aF (by kernel_rfl) p
theorem aZx (p:V):aA prog 59 p 5=advW 11 p:=aF (by kernel_rfl) p
theorem aZy (p:V):aA prog 59 p 6=advW 12 p:=aF (by kernel_rfl) p
theorem aZz (p:V):aA prog 59 p 7=advW 14 p:=aF (by kernel_rfl) p
theorem bA0 (p:V):aA prog 61 p 0=advW 0 p:=aF (by kernel_rfl) p
theorem bA1 (p:V):aA prog 61 p 1=advW 1 p:=aF (by kernel_rfl) p
theorem bA2 (p:V):aA prog 61 p 2=advW 2 p:=aF (by kernel_rfl) p
theorem bA3 (p:V):aA prog 76 p 0=advW 0 p:=aF (by kernel_rfl) p
theorem bA4 (p:V):aA prog 76 p 1=advW 1 p:=aF (by kernel_rfl) p
theorem bA5 (p:V):aA prog 76 p 2=advW 2 p:=aF (by kernel_rfl) p
theorem bA6 (p:V):aA prog 76 p 3=advW 3 p:=aF (by kernel_rfl) p
theorem bA7 (p:V):aA prog 77 p 0=advW 0 p:=aF (by kernel_rfl) p
theorem bA8 (p:V):aA prog 77 p 1=advW 1 p:=aF (by kernel_rfl) p
theorem bA9 (p:V):aA prog 77 p 2=advW 2 p:=aF (by kernel_rfl) p
theorem bAa (p:V):aA prog 77 p 3=advW 3 p:=aF (by kernel_rfl) p
theorem bAb (p:V):aA prog 82 p 0=advW 0 p:=aF (by kernel_rfl) p
theorem bAc (p:V):aA prog 82 p 1=advW 1 p:=aF (by kernel_rfl) p
theorem bAd (p:V):aA prog 82 p 2=advW 2 p:=aF (by kernel_rfl) p
theorem bAe (p:V):aA prog 82 p 3=advW 3 p:=aF (by kernel_rfl) p
theorem bAf (p:V):aA prog 84 p 0=advW 0 p:=aF (by kernel_rfl) p
theorem bAg (p:V):aA prog 84 p 1=advW 2 p:=aF (by kernel_rfl) p
theorem bAh (p:V):aA prog 84 p 2=advW 5 p:=aF (by kernel_rfl) p
theorem bAi (p:V):aA prog 84 p 3=advW 9 p:=aF (by kernel_rfl) p
theorem bAj (p:V):aA prog 84 p 4=advW 11 p:=aF (by kernel_rfl) p
theorem bAk (p:V):aA prog 90 p 0=advW 0 p:=aF (by kernel_rfl) p
theorem bAl (p:V):aA prog 90 p 1=advW 1 p:=aF (by kernel_rfl) p
theorem bAm (p:V):aA prog 99 p 0=advW 0 p:=aF (by kernel_rfl) p
theorem bAn (p:V):aA prog 99 p 1=advW 17 p:=aF (by kernel_rfl) p
theorem bAo (p:V):aA prog 99 p 2=advW 18 p:=aF (by kernel_rfl) p
theorem bAp (p:V):aA prog 99 p 3=advW 19 p:=aF (by kernel_rfl) p
theorem bAq (p:V):aA prog 99 p 4=advW 20 p:=aF (by kernel_rfl) p
theorem bD7 (x i:V):aD prog 102 x i=cP 23 x i:=bP (by kernel_rfl) x i
theorem bD8 (x i:V):aD prog 114 x i=cP 3 x i:=bP (by kernel_rfl) x i
theorem bIg (x i:V):aD prog 22 x i=cP 1 x i:=bP (by kernel_rfl) x i
theorem bIh (x i:V):aD prog 24 x i=cP 5 x i:=bP (by kernel_rfl) x i
theorem bIi (x i:V):aD prog 25 x i=cP 4 x i:=bP (by kernel_rfl) x i
theorem bIj (x i:V):aD prog 26 x i=cP 12 x i:=bP (by kernel_rfl) x i
theorem bIk (x i:V):aD prog 27 x i=cP 2 x i:=bP (by kernel_rfl) x i
theorem bIl (x i:V):aD prog 28 x i=cP 5 x i:=bP (by kernel_rfl) x i
theorem bD9 (x i:V):aD prog 361 x i=cP 1 x i:=bP (by kernel_rfl) x i
theorem bDa (x i:V):aD prog 364 x i=cP 1 x i:=bP (by kernel_rfl) x i
theorem bIm (x i:V):aD prog 44 x i=cP 17 x i:=bP (by kernel_rfl) x i
theorem bIn (x i:V):aD prog 55 x i=cP 4 x i:=bP (by kernel_rfl) x i
theorem bIo (x i:V):aD prog 62 x i=cP 3 x i:=bP (by kernel_rfl) x i
theorem bIp (x i:V):aD prog 68 x i=cP 4 x i:=bP (by kernel_rfl) x i
theorem bIq (x i:V):aD prog 71 x i=cP 4 x i:=bP (by kernel_rfl) x i
theorem bIr (x i:V):aD prog 80 x i=cP 4 x i:=bP (by kernel_rfl) x i
theorem bIs (x i:V):aD prog 96 x i=cP 1 x i:=bP (by kernel_rfl) x i
theorem bIt (x i:V):aD prog 97 x i=cP 23 x i:=bP (by kernel_rfl) x i
theorem bDb (p:V) (S:St):aB prog 126 p S=bB (some 4) p S:=bL (by kernel_rfl) p S
theorem bDc (p:V) (S:St):aB prog 132 p S=bB (some 5) p S:=bL (by kernel_rfl) p S
theorem bDd (p:V) (S:St):aB prog 145 p S=bB (some 4) p S:=bL (by kernel_rfl) p S
theorem ld2 (p:V) (S:St):aB prog 2 p S=bB none p S:=bL (by kernel_rfl) p S
theorem bDe (p:V) (S:St):aB prog 201 p S=bB (some 4) p S:=bL (by kernel_rfl) p S
theorem bDf (p:V) (S:St):aB prog 212 p S=bB (some 1) p S:=bL (by kernel_rfl) p S
theorem bIv (p:V) (S:St):aB prog 22 p S=bB none p S:=bL (by kernel_rfl) p S
theorem bDg (p:V) (S:St):aB prog 220 p S=bB (some 3) p S:=bL (by kernel_rfl) p S
theorem bDh (p:V) (S:St):aB prog 229 p S=bB none p S:=bL (by kernel_rfl) p S
theorem bDi (p:V) (S:St):aB prog 232 p S=bB none p S:=bL (by kernel_rfl) p S
theorem bIw (p:V) (S:St):aB prog 24 p S=bB none p S:=bL (by kernel_rfl) p S
theorem bIx (p:V) (S:St):aB prog 25 p S=bB none p S:=bL (by kernel_rfl) p S
theorem bIy (p:V) (S:St):aB prog 26 p S=bB none p S:=bL (by kernel_rfl) p S
theorem bIz (p:V) (S:St):aB prog 27 p S=bB none p S:=bL (by kernel_rfl) p S
theorem bJ0 (p:V) (S:St):aB prog 28 p S=bB none p S:=bL (by kernel_rfl) p S
theorem ld3 (p:V) (S:St):aB prog 3 p S=bB none p S:=bL (by kernel_rfl) p S
theorem bJ2 (p:V) (S:St):aB prog 30 p S=bB (some 6) p S:=bL (by kernel_rfl) p S
theorem bJ3 (p:V) (S:St):aB prog 31 p S=bB none p S:=bL (by kernel_rfl) p S
theorem bDj (p:V) (S:St):aB prog 346 p S=bB (some 2) p S:=bL (by kernel_rfl) p S
theorem bDk (p:V) (S:St):aB prog 349 p S=bB none p S:=bL (by kernel_rfl) p S
theorem ld4 (p:V) (S:St):aB prog 4 p S=bB none p S:=bL (by kernel_rfl) p S
theorem bJ4 (p:V) (S:St):aB prog 48 p S=bB (some 3) p S:=bL (by kernel_rfl) p S
theorem ld5 (p:V) (S:St):aB prog 5 p S=bB none p S:=bL (by kernel_rfl) p S
theorem bJ5 (p:V) (S:St):aB prog 52 p S=bB (some 3) p S:=bL (by kernel_rfl) p S
theorem bJ6 (p:V) (S:St):aB prog 54 p S=bB (some 5) p S:=bL (by kernel_rfl) p S
theorem bJ7 (p:V) (S:St):aB prog 55 p S=bB none p S:=bL (by kernel_rfl) p S
theorem bJ8 (p:V) (S:St):aB prog 57 p S=bB (some 2) p S:=bL (by kernel_rfl) p S
theorem bJ9 (p:V) (S:St):aB prog 59 p S=bB (some 15) p S:=bL (by kernel_rfl) p S
theorem bJa (p:V) (S:St):aB prog 61 p S=bB (some 17) p S:=bL (by kernel_rfl) p S
theorem bJb (p:V) (S:St):aB prog 76 p S=bB (some 4) p S:=bL (by kernel_rfl) p S
theorem bJc (p:V) (S:St):aB prog 80 p S=bB none p S:=bL (by kernel_rfl) p S
theorem bJd (p:V) (S:St):aB prog 82 p S=bB (some 4) p S:=bL (by kernel_rfl) p S
theorem bJe (p:V) (S:St):aB prog 84 p S=bB (some 12) p S:=bL (by kernel_rfl) p S
theorem ld9 (p:V) (S:St):aB prog 9 p S=bB none p S:=bL (by kernel_rfl) p S
theorem bJf (p:V) (S:St):aB prog 90 p S=bB (some 2) p S:=bL (by kernel_rfl) p S
theorem bJg (p:V) (S:St):aB prog 99 p S=bB (some 23) p S:=bL (by kernel_rfl) p S
theorem bAr (x:V) (S:St):bG prog 102 x S=lenW x:=eD (by kernel_rfl) x S
theorem bAs (x:V) (S:St):bG prog 114 x S=lenW x:=eD (by kernel_rfl) x S
theorem bDl (x:V) (S:St):bG prog 22 x S=lenW x:=eD (by kernel_rfl) x S
theorem bDm (x:V) (S:St):bG prog 24 x S=lenW x:=eD (by kernel_rfl) x S
theorem bDn (x:V) (S:St):bG prog 25 x S=lenW x:=eD (by kernel_rfl) x S
theorem bDo (x:V) (S:St):bG prog 26 x S=lenW x:=eD (by kernel_rfl) x S
theorem bDp (x:V) (S:St):bG prog 27 x S=lenW x:=eD (by kernel_rfl) x S
theorem bDq (x:V) (S:St):bG prog 28 x S=lenW x:=eD (by kernel_rfl) x S
theorem bAt (x:V) (S:St):bG prog 361 x S=lenW x:=eD (by kernel_rfl) x S
theorem bAu (x:V) (S:St):bG prog 364 x S=lenW x:=eD (by kernel_rfl) x S
theorem bDr (x:V) (S:St):bG prog 44 x S=lenW x:=eD (by kernel_rfl) x S
theorem bDs (x:V) (S:St):bG prog 55 x S=lenW x:=eD (by kernel_rfl) x S
theorem bDt (x:V) (S:St):bG prog 62 x S=lenW x:=eD (by kernel_rfl) x S
theorem bDu (x:V) (S:St):bG prog 68 x S=lenW x:=eD (by kernel_rfl) x S
theorem bDv (x:V) (S:St):bG prog 71 x S=lenW x:=eD (by kernel_rfl) x S
theorem bDw (x:V) (S:St):bG prog 80 x S=lenW x:=eD (by kernel_rfl) x S
theorem bJh (s:List UInt8) (S:St):bG prog 9 (.str s) S=.ok (.int .i64 s.length):=aMs (by kernel_rfl) s S
theorem bDx (x:V) (S:St):bG prog 96 x S=lenW x:=eD (by kernel_rfl) x S
theorem bDy (x:V) (S:St):bG prog 97 x S=lenW x:=eD (by kernel_rfl) x S
theorem bJi (a ver off len : Nat) (lo hi : Option V) : cC prog 22 (.sl a ver 1 off len) lo hi = (match cB len lo hi with
      | .ok (l, h) => .ok (.sl a ver 1 (off + l) (h - l))
      | .error e => .error e) := eZ (by kernel_rfl) a ver off len lo hi
theorem bJj (a ver off len : Nat) (lo hi : Option V) : cC prog 24 (.sl a ver 5 off len) lo hi = (match cB len lo hi with
      | .ok (l, h) => .ok (.sl a ver 5 (off + l) (h - l))
      | .error e => .error e) := eZ (by kernel_rfl) a ver off len lo hi
theorem bJk (a ver off len : Nat) (lo hi : Option V) : cC prog 25 (.sl a ver 4 off len) lo hi = (match cB len lo hi with
      | .ok (l, h) => .ok (.sl a ver 4 (off + l) (h - l))
      | .error e => .error e) := eZ (by kernel_rfl) a ver off len lo hi
theorem bJl (a ver off len : Nat) (lo hi : Option V) : cC prog 26 (.sl a ver 12 off len) lo hi = (match cB len lo hi with
      | .ok (l, h) => .ok (.sl a ver 12 (off + l) (h - l))
      | .error e => .error e) := eZ (by kernel_rfl) a ver off len lo hi
theorem aPq (es : List (List V)) (hl : iO 12 es = true) (lo hi : Option V) : cC prog 26 (.imm es) lo hi = (match cB es.length lo hi with
      | .ok (l, h) => .ok (.imm ((es.take h).drop l))
      | .error e => .error e) := aBe (by kernel_rfl) es hl lo hi
theorem bJm (a ver off len : Nat) (lo hi : Option V) : cC prog 27 (.sl a ver 2 off len) lo hi = (match cB len lo hi with
      | .ok (l, h) => .ok (.sl a ver 2 (off + l) (h - l))
      | .error e => .error e) := eZ (by kernel_rfl) a ver off len lo hi
theorem bJn (a ver off len : Nat) (lo hi : Option V) : cC prog 28 (.sl a ver 5 off len) lo hi = (match cB len lo hi with
      | .ok (l, h) => .ok (.sl a ver 5 (off + l) (h - l))
      | .error e => .error e) := eZ (by kernel_rfl) a ver off len lo hi
theorem bJo (a ver off len : Nat) (lo hi : Option V) : cC prog 55 (.sl a ver 4 off len) lo hi = (match cB len lo hi with
      | .ok (l, h) => .ok (.sl a ver 4 (off + l) (h - l))
      | .error e => .error e) := eZ (by kernel_rfl) a ver off len lo hi
theorem bDz (es : List (List V)) (hl : iO 4 es = true) (lo hi : Option V) : cC prog 55 (.imm es) lo hi = (match cB es.length lo hi with
      | .ok (l, h) => .ok (.imm ((es.take h).drop l))
      | .error e => .error e) := aBe (by kernel_rfl) es hl lo hi
theorem bJp (a ver off len : Nat) (lo hi : Option V) : cC prog 71 (.sl a ver 4 off len) lo hi = (match cB len lo hi with
      | .ok (l, h) => .ok (.sl a ver 4 (off + l) (h - l))
      | .error e => .error e) := eZ (by kernel_rfl) a ver off len lo hi
theorem bJq (a ver off len : Nat) (lo hi : Option V) : cC prog 80 (.sl a ver 4 off len) lo hi = (match cB len lo hi with
      | .ok (l, h) => .ok (.sl a ver 4 (off + l) (h - l))
      | .error e => .error e) := eZ (by kernel_rfl) a ver off len lo hi
theorem bJr (a ver off len : Nat) (lo hi : Option V) : cC prog 96 (.sl a ver 1 off len) lo hi = (match cB len lo hi with
      | .ok (l, h) => .ok (.sl a ver 1 (off + l) (h - l))
      | .error e => .error e) := eZ (by kernel_rfl) a ver off len lo hi
theorem bJs (a ver off len : Nat) (lo hi : Option V) : cC prog 97 (.sl a ver 23 off len) lo hi = (match cB len lo hi with
      | .ok (l, h) => .ok (.sl a ver 23 (off + l) (h - l))
      | .error e => .error e) := eZ (by kernel_rfl) a ver off len lo hi
theorem bE0 (p x:V) (S:St):aG prog 126 p x S=aW 4 p x S:=bJ (by kernel_rfl) p x S
theorem bE1 (p x:V) (S:St):aG prog 132 p x S=aW 5 p x S:=bJ (by kernel_rfl) p x S
theorem bE2 (p x:V) (S:St):aG prog 145 p x S=aW 4 p x S:=bJ (by kernel_rfl) p x S
theorem bE3 (p x:V) (S:St):aG prog 201 p x S=aW 4 p x S:=bJ (by kernel_rfl) p x S
theorem bE4 (p x:V) (S:St):aG prog 212 p x S=aW 1 p x S:=bJ (by kernel_rfl) p x S
theorem bJt (p x:V) (S:St):aG prog 22 p x S=aW 1 p x S:=bJ (by kernel_rfl) p x S
theorem bE5 (p x:V) (S:St):aG prog 220 p x S=aW 3 p x S:=bJ (by kernel_rfl) p x S
theorem bE6 (p x:V) (S:St):aG prog 232 p x S=aW 1 p x S:=bJ (by kernel_rfl) p x S
theorem bJu (p x:V) (S:St):aG prog 24 p x S=aW 1 p x S:=bJ (by kernel_rfl) p x S
theorem bJv (p x:V) (S:St):aG prog 25 p x S=aW 1 p x S:=bJ (by kernel_rfl) p x S
theorem bJw (p x:V) (S:St):aG prog 26 p x S=aW 1 p x S:=bJ (by kernel_rfl) p x S
theorem bJx (p x:V) (S:St):aG prog 27 p x S=aW 1 p x S:=bJ (by kernel_rfl) p x S
theorem bJy (p x:V) (S:St):aG prog 28 p x S=aW 1 p x S:=bJ (by kernel_rfl) p x S
theorem st3 (p x:V) (S:St):aG prog 3 p x S=aW 1 p x S:=bJ (by kernel_rfl) p x S
theorem bJz (p x:V) (S:St):aG prog 30 p x S=aW 6 p x S:=bJ (by kernel_rfl) p x S
theorem bK0 (p x:V) (S:St):aG prog 31 p x S=aW 1 p x S:=bJ (by kernel_rfl) p x S
theorem bE7 (p x:V) (S:St):aG prog 346 p x S=aW 2 p x S:=bJ (by kernel_rfl) p x S
theorem st4 (p x:V) (S:St):aG prog 4 p x S=aW 1 p x S:=bJ (by kernel_rfl) p x S
theorem bK1 (p x:V) (S:St):aG prog 48 p x S=aW 3 p x S:=bJ (by kernel_rfl) p x S
theorem st5 (p x:V) (S:St):aG prog 5 p x S=aW 1 p x S:=bJ (by kernel_rfl) p x S
theorem bK2 (p x:V) (S:St):aG prog 52 p x S=aW 3 p x S:=bJ (by kernel_rfl) p x S
theorem bK3 (p x:V) (S:St):aG prog 54 p x S=aW 5 p x S:=bJ (by kernel_rfl) p x S
theorem bK4 (p x:V) (S:St):aG prog 55 p x S=aW 1 p x S:=bJ (by kernel_rfl) p x S
theorem bK5 (p x:V) (S:St):aG prog 57 p x S=aW 2 p x S:=bJ (by kernel_rfl) p x S
theorem bK6 (p x:V) (S:St):aG prog 59 p x S=aW 15 p x S:=bJ (by kernel_rfl) p x S
theorem bK7 (p x:V) (S:St):aG prog 61 p x S=aW 17 p x S:=bJ (by kernel_rfl) p x S
theorem bK8 (p x:V) (S:St):aG prog 80 p x S=aW 1 p x S:=bJ (by kernel_rfl) p x S
theorem bK9 (p x:V) (S:St):aG prog 82 p x S=aW 4 p x S:=bJ (by kernel_rfl) p x S
theorem bKa (p x:V) (S:St):aG prog 84 p x S=aW 12 p x S:=bJ (by kernel_rfl) p x S
theorem st9 (p x:V) (S:St):aG prog 9 p x S=aW 1 p x S:=bJ (by kernel_rfl) p x S
theorem bKb (p x:V) (S:St):aG prog 90 p x S=aW 2 p x S:=bJ (by kernel_rfl) p x S
theorem bKc (p x:V) (S:St):aG prog 99 p x S=aW 23 p x S:=bJ (by kernel_rfl) p x S
def dVl:List Nat:=[3,4,5,6,7,8,9,10,11,12,13,14,15,16,17,18,19,21,22,23,24,25,26,27,28,29,30,31,32,33,34,35,36,37,38,40,41,42,43,44,45,46,47,48,49,50,51,52,53,54,55,56,57,58,59,62,64,68,69,70,73,74,75,76,77,78,80,81,82,83,84,85,86,87,88,89,90,91,92,93,94,95,96,97,98,99,100,101,103,104,105,107,108,109,110,111,112,113,114,115,116,117,118,119,120,121,122,123,124,126,127,128,129,130,131,132,133,134,135,136,137,138,139,140,141,142,143,144,145,146,147,148,150,151,152,153,155,156,157,158,159,160,161,162,163,164,165,166,167,168,169,170,171,172,173,174,175,177,178,182,185,186,187,188,189,190,191,192,193,194,195,196,197,198,199,200,201,203,204,205,206,207,208,209,210,211,212,213,214,215,216,217,218,219,220,222,223,224,225,226,227,228,229,231,232,233,236,238,241,242,243,244,245,246,249,250,251,252,253,254,258,260,263,268,271,273,278,279,286,287,307,308,309,310,311,312,313,314]
def dOl:List (Nat×List Nat):=[(235,[0]),(102,[2])]
noncomputable def tX:eU:=rQ prog dSp aS4 dVl dOl
noncomputable abbrev C:aC:=W prog tX
abbrev Fv (f:Nat) (args:List V) (v:V):Prop:=Go.AM.Fn prog tX f args v
abbrev Fr (f:Nat) (mk:Nat→List V) (n:Nat) (pre:List V) (v:V) (post:List V):Prop:=Go.AM.FnR prog tX f mk 0 n [pre] v [post]
theorem t8 (C:aC) (a0 a1:V) (S:St) (K:KW):aN prog C (bD 8) (bF 8) 8 [a0,a1] S K=m8 C a0 a1 S K:=congrFun (congrFun (congrFun (congrFun (congrFun bBz C) a0) a1) S) K
theorem v8 {a0 a1:V} {v:V} (hc:cloVs [a0,a1]=true) (h:m8 C a0 a1 ⟨0,.nil⟩ fun v0 S0=>bY S0 v0=.ok v):Fv 8 [a0,a1] v:=Go.AM.Fn.of (p:=bD 8) (lv:=bF 8) (by kernel_rfl) hc (by rw [t8];exact h)
theorem t24 (C:aC) (a0:V) (S:St) (K:KW):aN prog C (bD 24) (bF 24) 24 [a0] S K=m24 C a0 S K:=congrFun (congrFun (congrFun (congrFun aYg C) a0) S) K
theorem v24 {a0:V} {v:V} (hc:cloVs [a0]=true) (h:m24 C a0 ⟨0,.nil⟩ fun v0 S0=>bY S0 v0=.ok v):Fv 24 [a0] v:=Go.AM.Fn.of (p:=bD 24) (lv:=bF 24) (by kernel_rfl) hc (by rw [t24];exact h)
theorem bKd:tX 24=some (.val (bD 24)):=by kernel_rfl
theorem t26 (C:aC) (a0:V) (S:St) (K:KW):aN prog C (bD 26) (bF 26) 26 [a0] S K=m26 C a0 S K:=congrFun (congrFun (congrFun (congrFun aYh C) a0) S) K
theorem v26 {a0:V} {v:V} (hc:cloVs [a0]=true) (h:m26 C a0 ⟨0,.nil⟩ fun v0 S0=>bY S0 v0=.ok v):Fv 26 [a0] v:=Go.AM.Fn.of (p:=bD 26) (lv:=bF 26) (by kernel_rfl) hc (by rw [t26];exact h)
theorem t30 (C:aC) (a0 a1:V) (S:St) (K:KW):aN prog C (bD 30) (bF 30) 30 [a0,a1] S K=m30 C a0 a1 S K:=congrFun (congrFun (congrFun (congrFun (congrFun aYi C) a0) a1) S) K
theorem v30 {a0 a1:V} {v:V} (hc:cloVs [a0,a1]=true) (h:m30 C a0 a1 ⟨0,.nil⟩ fun v0 S0=>bY S0 v0=.ok v):Fv 30 [a0,a1] v:=Go.AM.Fn.of (p:=bD 30) (lv:=bF 30) (by kernel_rfl) hc (by rw [t30];exact h)
theorem t31 (C:aC) (S:St) (K:KW):aN prog C (bD 31) (bF 31) 31 [] S K=m31 C S K:=congrFun (congrFun (congrFun aYj C) S) K
theorem v31 {v:V} (hc:cloVs []=true) (h:m31 C ⟨0,.nil⟩ fun v0 S0=>bY S0 v0=.ok v):Fv 31 [] v:=Go.AM.Fn.of (p:=bD 31) (lv:=bF 31) (by kernel_rfl) hc (by rw [t31];exact h)
theorem t33 (C:aC) (a0 a1:V) (S:St) (K:KW):aN prog C (bD 33) (bF 33) 33 [a0,a1] S K=m33 C a0 a1 S K:=congrFun (congrFun (congrFun (congrFun (congrFun aYk C) a0) a1) S) K
theorem v33 {a0 a1:V} {v:V} (hc:cloVs [a0,a1]=true) (h:m33 C a0 a1 ⟨0,.nil⟩ fun v0 S0=>bY S0 v0=.ok v):Fv 33 [a0,a1] v:=Go.AM.Fn.of (p:=bD 33) (lv:=bF 33) (by kernel_rfl) hc (by rw [t33];exact h)
theorem bKe:tX 33=some (.val (bD 33)):=by kernel_rfl
theorem t35 (C:aC) (a0 a1:V) (S:St) (K:KW):aN prog C (bD 35) (bF 35) 35 [a0,a1] S K=m35 C a0 a1 S K:=congrFun (congrFun (congrFun (congrFun (congrFun aYl C) a0) a1) S) K
theorem v35 {a0 a1:V} {v:V} (hc:cloVs [a0,a1]=true) (h:m35 C a0 a1 ⟨0,.nil⟩ fun v0 S0=>bY S0 v0=.ok v):Fv 35 [a0,a1] v:=Go.AM.Fn.of (p:=bD 35) (lv:=bF 35) (by kernel_rfl) hc (by rw [t35];exact h)
theorem bKf:tX 35=some (.val (bD 35)):=by kernel_rfl
theorem t40 (C:aC) (a0 a1 a2:V) (S:St) (K:KW):aN prog C (bD 40) (bF 40) 40 [a0,a1,a2] S K=m40 C a0 a1 a2 S K:=congrFun (congrFun (congrFun (congrFun (congrFun (congrFun aYm C) a0) a1) a2) S) K
theorem v40 {a0 a1 a2:V} {v:V} (hc:cloVs [a0,a1,a2]=true) (h:m40 C a0 a1 a2 ⟨0,.nil⟩ fun v0 S0=>bY S0 v0=.ok v):Fv 40 [a0,a1,a2] v:=Go.AM.Fn.of (p:=bD 40) (lv:=bF 40) (by kernel_rfl) hc (by rw [t40];exact h)
theorem bKg:tX 40=some (.val (bD 40)):=by kernel_rfl
theorem t42 (C:aC) (a0:V) (S:St) (K:KW):aN prog C (bD 42) (bF 42) 42 [a0] S K=m42 C a0 S K:=congrFun (congrFun (congrFun (congrFun aYn C) a0) S) K
theorem v42 {a0:V} {v:V} (hc:cloVs [a0]=true) (h:m42 C a0 ⟨0,.nil⟩ fun v0 S0=>bY S0 v0=.ok v):Fv 42 [a0] v:=Go.AM.Fn.of (p:=bD 42) (lv:=bF 42) (by kernel_rfl) hc (by rw [t42];exact h)
theorem bE8:tX 42=some (.val (bD 42)):=by kernel_rfl
theorem t44 (C:aC) (S:St) (K:KW):aN prog C (bD 44) (bF 44) 44 [] S K=m44 C S K:=congrFun (congrFun (congrFun aYo C) S) K
theorem v44 {v:V} (hc:cloVs []=true) (h:m44 C ⟨0,.nil⟩ fun v0 S0=>bY S0 v0=.ok v):Fv 44 [] v:=Go.AM.Fn.of (p:=bD 44) (lv:=bF 44) (by kernel_rfl) hc (by rw [t44];exact h)
theorem t45 (C:aC) (a0 a1 a2:V) (S:St) (K:KW):aN prog C (bD 45) (bF 45) 45 [a0,a1,a2] S K=m45 C a0 a1 a2 S K:=congrFun (congrFun (congrFun (congrFun (congrFun (congrFun aYp C) a0) a1) a2) S) K
theorem v45 {a0 a1 a2:V} {v:V} (hc:cloVs [a0,a1,a2]=true) (h:m45 C a0 a1 a2 ⟨0,.nil⟩ fun v0 S0=>bY S0 v0=.ok v):Fv 45 [a0,a1,a2] v:=Go.AM.Fn.of (p:=bD 45) (lv:=bF 45) (by kernel_rfl) hc (by rw [t45];exact h)
theorem t46 (C:aC) (a0:V) (S:St) (K:KW):aN prog C (bD 46) (bF 46) 46 [a0] S K=m46 C a0 S K:=congrFun (congrFun (congrFun (congrFun aYq C) a0) S) K
theorem v46 {a0:V} {v:V} (hc:cloVs [a0]=true) (h:m46 C a0 ⟨0,.nil⟩ fun v0 S0=>bY S0 v0=.ok v):Fv 46 [a0] v:=Go.AM.Fn.of (p:=bD 46) (lv:=bF 46) (by kernel_rfl) hc (by rw [t46];exact h)
theorem t85 (C:aC) (a0:V) (S:St) (K:KW):aN prog C (bD 85) (bF 85) 85 [a0] S K=m85 C a0 S K:=congrFun (congrFun (congrFun (congrFun aYr C) a0) S) K
theorem v85 {a0:V} {v:V} (hc:cloVs [a0]=true) (h:m85 C a0 ⟨0,.nil⟩ fun v0 S0=>bY S0 v0=.ok v):Fv 85 [a0] v:=Go.AM.Fn.of (p:=bD 85) (lv:=bF 85) (by kernel_rfl) hc (by rw [t85];exact h)
theorem t86 (C:aC) (a0:V) (S:St) (K:KW):aN prog C (bD 86) (bF 86) 86 [a0] S K=m86 C a0 S K:=congrFun (congrFun (congrFun (congrFun aYs C) a0) S) K
theorem v86 {a0:V} {v:V} (hc:cloVs [a0]=true) (h:m86 C a0 ⟨0,.nil⟩ fun v0 S0=>bY S0 v0=.ok v):Fv 86 [a0] v:=Go.AM.Fn.of (p:=bD 86) (lv:=bF 86) (by kernel_rfl) hc (by rw [t86];exact h)
theorem t87 (C:aC) (a0:V) (S:St) (K:KW):aN prog C (bD 87) (bF 87) 87 [a0] S K=m87 C a0 S K:=congrFun (congrFun (congrFun (congrFun aYt C) a0) S) K
theorem v87 {a0:V} {v:V} (hc:cloVs [a0]=true) (h:m87 C a0 ⟨0,.nil⟩ fun v0 S0=>bY S0 v0=.ok v):Fv 87 [a0] v:=Go.AM.Fn.of (p:=bD 87) (lv:=bF 87) (by kernel_rfl) hc (by rw [t87];exact h)
theorem t88 (C:aC) (a0:V) (S:St) (K:KW):aN prog C (bD 88) (bF 88) 88 [a0] S K=m88 C a0 S K:=congrFun (congrFun (congrFun (congrFun aYu C) a0) S) K
theorem v88 {a0:V} {v:V} (hc:cloVs [a0]=true) (h:m88 C a0 ⟨0,.nil⟩ fun v0 S0=>bY S0 v0=.ok v):Fv 88 [a0] v:=Go.AM.Fn.of (p:=bD 88) (lv:=bF 88) (by kernel_rfl) hc (by rw [t88];exact h)
theorem t89 (C:aC) (a0:V) (S:St) (K:KW):aN prog C (bD 89) (bF 89) 89 [a0] S K=m89 C a0 S K:=congrFun (congrFun (congrFun (congrFun aYv C) a0) S) K
theorem v89 {a0:V} {v:V} (hc:cloVs [a0]=true) (h:m89 C a0 ⟨0,.nil⟩ fun v0 S0=>bY S0 v0=.ok v):Fv 89 [a0] v:=Go.AM.Fn.of (p:=bD 89) (lv:=bF 89) (by kernel_rfl) hc (by rw [t89];exact h)
theorem t90 (C:aC) (a0:V) (S:St) (K:KW):aN prog C (bD 90) (bF 90) 90 [a0] S K=m90 C a0 S K:=congrFun (congrFun (congrFun (congrFun aYw C) a0) S) K
theorem v90 {a0:V} {v:V} (hc:cloVs [a0]=true) (h:m90 C a0 ⟨0,.nil⟩ fun v0 S0=>bY S0 v0=.ok v):Fv 90 [a0] v:=Go.AM.Fn.of (p:=bD 90) (lv:=bF 90) (by kernel_rfl) hc (by rw [t90];exact h)
theorem t91 (C:aC) (a0 a1:V) (S:St) (K:KW):aN prog C (bD 91) (bF 91) 91 [a0,a1] S K=m91 C a0 a1 S K:=congrFun (congrFun (congrFun (congrFun (congrFun aYx C) a0) a1) S) K
theorem v91 {a0 a1:V} {v:V} (hc:cloVs [a0,a1]=true) (h:m91 C a0 a1 ⟨0,.nil⟩ fun v0 S0=>bY S0 v0=.ok v):Fv 91 [a0,a1] v:=Go.AM.Fn.of (p:=bD 91) (lv:=bF 91) (by kernel_rfl) hc (by rw [t91];exact h)
theorem t102 (C:aC) (a0:V) (S:St) (K:KW):aN prog C (bD 102) (bF 102) 102 [a0] S K=aS5 C a0 S K:=congrFun (congrFun (congrFun (congrFun aS6 C) a0) S) K
theorem bKh {a0:V} {S:St} {K:KW} (hc:cloVs [a0]=true) (h:aS5 C a0 ⟨0,.nil⟩ fun v0 S0=>wR (pJ [2] v0 S0 S) fun r=>K r.1 r.2):C 102 [a0] S K:=aXp (p:=bD 102) (lv:=bF 102) (by kernel_rfl) hc (by rw [t102];exact h)
theorem t103 (C:aC) (a0:V) (S:St) (K:KW):aN prog C (bD 103) (bF 103) 103 [a0] S K=aS7 C a0 S K:=congrFun (congrFun (congrFun (congrFun aS8 C) a0) S) K
theorem bKi {a0:V} {v:V} (hc:cloVs [a0]=true) (h:aS7 C a0 ⟨0,.nil⟩ fun v0 S0=>bY S0 v0=.ok v):Fv 103 [a0] v:=Go.AM.Fn.of (p:=bD 103) (lv:=bF 103) (by kernel_rfl) hc (by rw [t103];exact h)
theorem t104 (C:aC) (a0:V) (S:St) (K:KW):aN prog C (bD 104) (bF 104) 104 [a0] S K=aS9 C a0 S K:=congrFun (congrFun (congrFun (congrFun aSa C) a0) S) K
theorem bKj {a0:V} {v:V} (hc:cloVs [a0]=true) (h:aS9 C a0 ⟨0,.nil⟩ fun v0 S0=>bY S0 v0=.ok v):Fv 104 [a0] v:=Go.AM.Fn.of (p:=bD 104) (lv:=bF 104) (by kernel_rfl) hc (by rw [t104];exact h)
theorem bE9:tX 104=some (.val (bD 104)):=by kernel_rfl
theorem bKk (C:aC) (a0 a1 a2:V) (S:St) (K:KW):aN prog C (bD 105) (bF 105) 105 [a0,a1,a2] S K=aSb C a0 a1 a2 S K:=congrFun (congrFun (congrFun (congrFun (congrFun (congrFun aSc C) a0) a1) a2) S) K
theorem bKl {a0 a1 a2:V} {v:V} (hc:cloVs [a0,a1,a2]=true) (h:aSb C a0 a1 a2 ⟨0,.nil⟩ fun v0 S0=>bY S0 v0=.ok v):Fv 105 [a0,a1,a2] v:=Go.AM.Fn.of (p:=bD 105) (lv:=bF 105) (by kernel_rfl) hc (by rw [bKk];exact h)
theorem bKm (C:aC) (a0 a1:V) (S:St) (K:KW):aN prog C (bD 106) (bF 106) 106 [a0,a1] S K=aSd C a0 a1 S K:=congrFun (congrFun (congrFun (congrFun (congrFun aSe C) a0) a1) S) K
theorem bKn {a0 a1:V} {S:St} {K:KW} (h:aSd C a0 a1 S K):C 106 [a0,a1] S K:=kY (p:=bD 106) (lv:=bF 106) (by kernel_rfl) (by rw [bKm];exact h)
theorem bKo (C:aC) (a0 a1 a2 a3:V) (S:St) (K:KW):aN prog C (bD 107) (bF 107) 107 [a0,a1,a2,a3] S K=aSf C a0 a1 a2 a3 S K:=congrFun (congrFun (congrFun (congrFun (congrFun (congrFun (congrFun aSg C) a0) a1) a2) a3) S) K
theorem bKp {a0 a1 a2 a3:V} {v:V} (hc:cloVs [a0,a1,a2,a3]=true) (h:aSf C a0 a1 a2 a3 ⟨0,.nil⟩ fun v0 S0=>bY S0 v0=.ok v):Fv 107 [a0,a1,a2,a3] v:=Go.AM.Fn.of (p:=bD 107) (lv:=bF 107) (by kernel_rfl) hc (by rw [bKo];exact h)
theorem bKq (C:aC) (a0:V) (S:St) (K:KW):aN prog C (bD 123) (bF 123) 123 [a0] S K=aSh C a0 S K:=congrFun (congrFun (congrFun (congrFun aSi C) a0) S) K
theorem bKr {a0:V} {v:V} (hc:cloVs [a0]=true) (h:aSh C a0 ⟨0,.nil⟩ fun v0 S0=>bY S0 v0=.ok v):Fv 123 [a0] v:=Go.AM.Fn.of (p:=bD 123) (lv:=bF 123) (by kernel_rfl) hc (by rw [bKq];exact h)
theorem bKs (C:aC) (a0 a1:V) (S:St) (K:KW):aN prog C (bD 124) (bF 124) 124 [a0,a1] S K=aSj C a0 a1 S K:=congrFun (congrFun (congrFun (congrFun (congrFun aSk C) a0) a1) S) K
theorem bKt {a0 a1:V} {v:V} (hc:cloVs [a0,a1]=true) (h:aSj C a0 a1 ⟨0,.nil⟩ fun v0 S0=>bY S0 v0=.ok v):Fv 124 [a0,a1] v:=Go.AM.Fn.of (p:=bD 124) (lv:=bF 124) (by kernel_rfl) hc (by rw [bKs];exact h)
theorem bKu (C:aC) (a0 a1:V) (S:St) (K:KW):aN prog C (bD 125) (bF 125) 125 [a0,a1] S K=aSl C a0 a1 S K:=congrFun (congrFun (congrFun (congrFun (congrFun aSm C) a0) a1) S) K
theorem bKv {a0 a1:V} {S:St} {K:KW} (h:aSl C a0 a1 S K):C 125 [a0,a1] S K:=kY (p:=bD 125) (lv:=bF 125) (by kernel_rfl) (by rw [bKu];exact h)
theorem bKw (C:aC) (a0:V) (S:St) (K:KW):aN prog C (bD 128) (bF 128) 128 [a0] S K=aSn C a0 S K:=congrFun (congrFun (congrFun (congrFun aSo C) a0) S) K
theorem bKx {a0:V} {v:V} (hc:cloVs [a0]=true) (h:aSn C a0 ⟨0,.nil⟩ fun v0 S0=>bY S0 v0=.ok v):Fv 128 [a0] v:=Go.AM.Fn.of (p:=bD 128) (lv:=bF 128) (by kernel_rfl) hc (by rw [bKw];exact h)
theorem bKy (C:aC) (a0 a1:V) (S:St) (K:KW):aN prog C (bD 129) (bF 129) 129 [a0,a1] S K=aSp C a0 a1 S K:=congrFun (congrFun (congrFun (congrFun (congrFun aSq C) a0) a1) S) K
theorem bKz {a0 a1:V} {v:V} (hc:cloVs [a0,a1]=true) (h:aSp C a0 a1 ⟨0,.nil⟩ fun v0 S0=>bY S0 v0=.ok v):Fv 129 [a0,a1] v:=Go.AM.Fn.of (p:=bD 129) (lv:=bF 129) (by kernel_rfl) hc (by rw [bKy];exact h)
theorem bL0 (C:aC) (a0 a1:V) (S:St) (K:KW):aN prog C (bD 130) (bF 130) 130 [a0,a1] S K=aSr C a0 a1 S K:=congrFun (congrFun (congrFun (congrFun (congrFun aSs C) a0) a1) S) K
theorem bL1 {a0 a1:V} {v:V} (hc:cloVs [a0,a1]=true) (h:aSr C a0 a1 ⟨0,.nil⟩ fun v0 S0=>bY S0 v0=.ok v):Fv 130 [a0,a1] v:=Go.AM.Fn.of (p:=bD 130) (lv:=bF 130) (by kernel_rfl) hc (by rw [bL0];exact h)
theorem bEa:tX 130=some (.val (bD 130)):=by kernel_rfl
theorem bL2 (C:aC) (a0:V) (S:St) (K:KW):aN prog C (bD 131) (bF 131) 131 [a0] S K=aSt C a0 S K:=congrFun (congrFun (congrFun (congrFun aSu C) a0) S) K
theorem bL3 {a0:V} {v:V} (hc:cloVs [a0]=true) (h:aSt C a0 ⟨0,.nil⟩ fun v0 S0=>bY S0 v0=.ok v):Fv 131 [a0] v:=Go.AM.Fn.of (p:=bD 131) (lv:=bF 131) (by kernel_rfl) hc (by rw [bL2];exact h)
theorem bL4 (C:aC) (a0 a1:V) (S:St) (K:KW):aN prog C (bD 132) (bF 132) 132 [a0,a1] S K=aSv C a0 a1 S K:=congrFun (congrFun (congrFun (congrFun (congrFun aSw C) a0) a1) S) K
theorem bL5 {a0 a1:V} {v:V} (hc:cloVs [a0,a1]=true) (h:aSv C a0 a1 ⟨0,.nil⟩ fun v0 S0=>bY S0 v0=.ok v):Fv 132 [a0,a1] v:=Go.AM.Fn.of (p:=bD 132) (lv:=bF 132) (by kernel_rfl) hc (by rw [bL4];exact h)
theorem bL6 (C:aC) (a0 a1:V) (S:St) (K:KW):aN prog C (bD 152) (bF 152) 152 [a0,a1] S K=aYy C a0 a1 S K:=congrFun (congrFun (congrFun (congrFun (congrFun aSx C) a0) a1) S) K
theorem bEb:tX 152=some (.val (bD 152)):=by kernel_rfl
theorem bL7 (C:aC) (a0 a1:V) (S:St) (K:KW):aN prog C (bD 155) (bF 155) 155 [a0,a1] S K=aYz C a0 a1 S K:=congrFun (congrFun (congrFun (congrFun (congrFun aSy C) a0) a1) S) K
theorem bEc:tX 155=some (.val (bD 155)):=by kernel_rfl
theorem bL8 (C:aC) (a0:V) (S:St) (K:KW):aN prog C (bD 157) (bF 157) 157 [a0] S K=aSz C a0 S K:=congrFun (congrFun (congrFun (congrFun aT0 C) a0) S) K
theorem bL9 {a0:V} {v:V} (hc:cloVs [a0]=true) (h:aSz C a0 ⟨0,.nil⟩ fun v0 S0=>bY S0 v0=.ok v):Fv 157 [a0] v:=Go.AM.Fn.of (p:=bD 157) (lv:=bF 157) (by kernel_rfl) hc (by rw [bL8];exact h)
theorem bLa (C:aC) (a0 a1:V) (S:St) (K:KW):aN prog C (bD 158) (bF 158) 158 [a0,a1] S K=aT1 C a0 a1 S K:=congrFun (congrFun (congrFun (congrFun (congrFun aT2 C) a0) a1) S) K
theorem bLb {a0 a1:V} {v:V} (hc:cloVs [a0,a1]=true) (h:aT1 C a0 a1 ⟨0,.nil⟩ fun v0 S0=>bY S0 v0=.ok v):Fv 158 [a0,a1] v:=Go.AM.Fn.of (p:=bD 158) (lv:=bF 158) (by kernel_rfl) hc (by rw [bLa];exact h)
theorem bEd:tX 158=some (.val (bD 158)):=by kernel_rfl
theorem bLc (C:aC) (a0:V) (S:St) (K:KW):aN prog C (bD 163) (bF 163) 163 [a0] S K=aT3 C a0 S K:=congrFun (congrFun (congrFun (congrFun aT4 C) a0) S) K
theorem bLd {a0:V} {v:V} (hc:cloVs [a0]=true) (h:aT3 C a0 ⟨0,.nil⟩ fun v0 S0=>bY S0 v0=.ok v):Fv 163 [a0] v:=Go.AM.Fn.of (p:=bD 163) (lv:=bF 163) (by kernel_rfl) hc (by rw [bLc];exact h)
theorem bLe (C:aC) (a0 a1:V) (S:St) (K:KW):aN prog C (bD 164) (bF 164) 164 [a0,a1] S K=aT5 C a0 a1 S K:=congrFun (congrFun (congrFun (congrFun (congrFun aT6 C) a0) a1) S) K
theorem bLf {a0 a1:V} {v:V} (hc:cloVs [a0,a1]=true) (h:aT5 C a0 a1 ⟨0,.nil⟩ fun v0 S0=>bY S0 v0=.ok v):Fv 164 [a0,a1] v:=Go.AM.Fn.of (p:=bD 164) (lv:=bF 164) (by kernel_rfl) hc (by rw [bLe];exact h)
theorem bLg (C:aC) (a0:V) (S:St) (K:KW):aN prog C (bD 165) (bF 165) 165 [a0] S K=aT7 C a0 S K:=congrFun (congrFun (congrFun (congrFun aT8 C) a0) S) K
theorem bLh {a0:V} {v:V} (hc:cloVs [a0]=true) (h:aT7 C a0 ⟨0,.nil⟩ fun v0 S0=>bY S0 v0=.ok v):Fv 165 [a0] v:=Go.AM.Fn.of (p:=bD 165) (lv:=bF 165) (by kernel_rfl) hc (by rw [bLg];exact h)
theorem bLi (C:aC) (a0:V) (S:St) (K:KW):aN prog C (bD 166) (bF 166) 166 [a0] S K=aT9 C a0 S K:=congrFun (congrFun (congrFun (congrFun aTa C) a0) S) K
theorem bLj {a0:V} {v:V} (hc:cloVs [a0]=true) (h:aT9 C a0 ⟨0,.nil⟩ fun v0 S0=>bY S0 v0=.ok v):Fv 166 [a0] v:=Go.AM.Fn.of (p:=bD 166) (lv:=bF 166) (by kernel_rfl) hc (by rw [bLi];exact h)
theorem bLk (C:aC) (a0:V) (S:St) (K:KW):aN prog C (bD 167) (bF 167) 167 [a0] S K=aTb C a0 S K:=congrFun (congrFun (congrFun (congrFun aTc C) a0) S) K
theorem bLl {a0:V} {v:V} (hc:cloVs [a0]=true) (h:aTb C a0 ⟨0,.nil⟩ fun v0 S0=>bY S0 v0=.ok v):Fv 167 [a0] v:=Go.AM.Fn.of (p:=bD 167) (lv:=bF 167) (by kernel_rfl) hc (by rw [bLk];exact h)
theorem bLm (C:aC) (a0 a1:V) (S:St) (K:KW):aN prog C (bD 168) (bF 168) 168 [a0,a1] S K=aTd C a0 a1 S K:=congrFun (congrFun (congrFun (congrFun (congrFun aTe C) a0) a1) S) K
theorem bLn {a0 a1:V} {v:V} (hc:cloVs [a0,a1]=true) (h:aTd C a0 a1 ⟨0,.nil⟩ fun v0 S0=>bY S0 v0=.ok v):Fv 168 [a0,a1] v:=Go.AM.Fn.of (p:=bD 168) (lv:=bF 168) (by kernel_rfl) hc (by rw [bLm];exact h)
theorem bEe:tX 168=some (.val (bD 168)):=by kernel_rfl
theorem bLo (C:aC) (a0 a1:V) (S:St) (K:KW):aN prog C (bD 169) (bF 169) 169 [a0,a1] S K=aTf C a0 a1 S K:=congrFun (congrFun (congrFun (congrFun (congrFun aTg C) a0) a1) S) K
theorem bLp {a0 a1:V} {v:V} (hc:cloVs [a0,a1]=true) (h:aTf C a0 a1 ⟨0,.nil⟩ fun v0 S0=>bY S0 v0=.ok v):Fv 169 [a0,a1] v:=Go.AM.Fn.of (p:=bD 169) (lv:=bF 169) (by kernel_rfl) hc (by rw [bLo];exact h)
theorem bLq (C:aC) (a0 a1:V) (S:St) (K:KW):aN prog C (bD 170) (bF 170) 170 [a0,a1] S K=aZ0 C a0 a1 S K:=congrFun (congrFun (congrFun (congrFun (congrFun aTh C) a0) a1) S) K
theorem bEf:tX 170=some (.val (bD 170)):=by kernel_rfl
theorem bLr (C:aC) (a0 a1:V) (S:St) (K:KW):aN prog C (bD 173) (bF 173) 173 [a0,a1] S K=aTi C a0 a1 S K:=congrFun (congrFun (congrFun (congrFun (congrFun aTj C) a0) a1) S) K
theorem bLs {a0 a1:V} {v:V} (hc:cloVs [a0,a1]=true) (h:aTi C a0 a1 ⟨0,.nil⟩ fun v0 S0=>bY S0 v0=.ok v):Fv 173 [a0,a1] v:=Go.AM.Fn.of (p:=bD 173) (lv:=bF 173) (by kernel_rfl) hc (by rw [bLr];exact h)
theorem bLt (C:aC) (a0 a1:V) (S:St) (K:KW):aN prog C (bD 174) (bF 174) 174 [a0,a1] S K=aTk C a0 a1 S K:=congrFun (congrFun (congrFun (congrFun (congrFun aTl C) a0) a1) S) K
theorem bLu {a0 a1:V} {v:V} (hc:cloVs [a0,a1]=true) (h:aTk C a0 a1 ⟨0,.nil⟩ fun v0 S0=>bY S0 v0=.ok v):Fv 174 [a0,a1] v:=Go.AM.Fn.of (p:=bD 174) (lv:=bF 174) (by kernel_rfl) hc (by rw [bLt];exact h)
theorem bEg:tX 174=some (.val (bD 174)):=by kernel_rfl
theorem bLv (C:aC) (a0 a1 a2:V) (S:St) (K:KW):aN prog C (bD 175) (bF 175) 175 [a0,a1,a2] S K=aTm C a0 a1 a2 S K:=congrFun (congrFun (congrFun (congrFun (congrFun (congrFun aTn C) a0) a1) a2) S) K
theorem bLw {a0 a1 a2:V} {v:V} (hc:cloVs [a0,a1,a2]=true) (h:aTm C a0 a1 a2 ⟨0,.nil⟩ fun v0 S0=>bY S0 v0=.ok v):Fv 175 [a0,a1,a2] v:=Go.AM.Fn.of (p:=bD 175) (lv:=bF 175) (by kernel_rfl) hc (by rw [bLv];exact h)
theorem bLx (C:aC) (a0 a1 a2:V) (S:St) (K:KW):aN prog C (bD 176) (bF 176) 176 [a0,a1,a2] S K=aPm C a0 a1 a2 S K:=congrFun (congrFun (congrFun (congrFun (congrFun (congrFun aTo C) a0) a1) a2) S) K
theorem bLy {a0 a1 a2:V} {S:St} {K:KW} (h:aPm C a0 a1 a2 S K):C 176 [a0,a1,a2] S K:=kY (p:=bD 176) (lv:=bF 176) (by kernel_rfl) (by rw [bLx];exact h)
theorem bLz (C:aC) (a0 a1:V) (S:St) (K:KW):aN prog C (bD 177) (bF 177) 177 [a0,a1] S K=aTp C a0 a1 S K:=congrFun (congrFun (congrFun (congrFun (congrFun aTq C) a0) a1) S) K
theorem bM0 {a0 a1:V} {v:V} (hc:cloVs [a0,a1]=true) (h:aTp C a0 a1 ⟨0,.nil⟩ fun v0 S0=>bY S0 v0=.ok v):Fv 177 [a0,a1] v:=Go.AM.Fn.of (p:=bD 177) (lv:=bF 177) (by kernel_rfl) hc (by rw [bLz];exact h)
theorem bM1 (C:aC) (a0 a1:V) (S:St) (K:KW):aN prog C (bD 178) (bF 178) 178 [a0,a1] S K=aTr C a0 a1 S K:=congrFun (congrFun (congrFun (congrFun (congrFun aTs C) a0) a1) S) K
theorem bM2 {a0 a1:V} {v:V} (hc:cloVs [a0,a1]=true) (h:aTr C a0 a1 ⟨0,.nil⟩ fun v0 S0=>bY S0 v0=.ok v):Fv 178 [a0,a1] v:=Go.AM.Fn.of (p:=bD 178) (lv:=bF 178) (by kernel_rfl) hc (by rw [bM1];exact h)
theorem bM3 (C:aC) (a0 a1 a2:V) (S:St) (K:KW):aN prog C (bD 179) (bF 179) 179 [a0,a1,a2] S K=aPn C a0 a1 a2 S K:=congrFun (congrFun (congrFun (congrFun (congrFun (congrFun aTt C) a0) a1) a2) S) K
theorem bM4 {a0 a1 a2:V} {S:St} {K:KW} (h:aPn C a0 a1 a2 S K):C 179 [a0,a1,a2] S K:=kY (p:=bD 179) (lv:=bF 179) (by kernel_rfl) (by rw [bM3];exact h)
theorem bM5 (C:aC) (a0 a1:V) (S:St) (K:KW):aN prog C (bD 180) (bF 180) 180 [a0,a1] S K=aTu C a0 a1 S K:=congrFun (congrFun (congrFun (congrFun (congrFun aTv C) a0) a1) S) K
theorem bM6 {a0 a1:V} {S:St} {K:KW} (h:aTu C a0 a1 S K):C 180 [a0,a1] S K:=kY (p:=bD 180) (lv:=bF 180) (by kernel_rfl) (by rw [bM5];exact h)
theorem bM7 (C:aC) (a0 a1:V) (S:St) (K:KW):aN prog C (bD 181) (bF 181) 181 [a0,a1] S K=aTw C a0 a1 S K:=congrFun (congrFun (congrFun (congrFun (congrFun aTx C) a0) a1) S) K
theorem bM8 {a0 a1:V} {S:St} {K:KW} (h:aTw C a0 a1 S K):C 181 [a0,a1] S K:=kY (p:=bD 181) (lv:=bF 181) (by kernel_rfl) (by rw [bM7];exact h)
theorem bM9 (C:aC) (a0 a1:V) (S:St) (K:KW):aN prog C (bD 182) (bF 182) 182 [a0,a1] S K=aTy C a0 a1 S K:=congrFun (congrFun (congrFun (congrFun (congrFun aTz C) a0) a1) S) K
theorem bMa {a0 a1:V} {v:V} (hc:cloVs [a0,a1]=true) (h:aTy C a0 a1 ⟨0,.nil⟩ fun v0 S0=>bY S0 v0=.ok v):Fv 182 [a0,a1] v:=Go.AM.Fn.of (p:=bD 182) (lv:=bF 182) (by kernel_rfl) hc (by rw [bM9];exact h)
theorem bMb (C:aC) (a0 a1 a2:V) (S:St) (K:KW):aN prog C (bD 183) (bF 183) 183 [a0,a1,a2] S K=aPo C a0 a1 a2 S K:=congrFun (congrFun (congrFun (congrFun (congrFun (congrFun aU0 C) a0) a1) a2) S) K
theorem bMc {a0 a1 a2:V} {S:St} {K:KW} (h:aPo C a0 a1 a2 S K):C 183 [a0,a1,a2] S K:=kY (p:=bD 183) (lv:=bF 183) (by kernel_rfl) (by rw [bMb];exact h)
theorem bMd (C:aC) (a0 a1:V) (S:St) (K:KW):aN prog C (bD 184) (bF 184) 184 [a0,a1] S K=aU1 C a0 a1 S K:=congrFun (congrFun (congrFun (congrFun (congrFun aU2 C) a0) a1) S) K
theorem bMe {a0 a1:V} {S:St} {K:KW} (h:aU1 C a0 a1 S K):C 184 [a0,a1] S K:=kY (p:=bD 184) (lv:=bF 184) (by kernel_rfl) (by rw [bMd];exact h)
theorem bMf (C:aC) (a0:V) (S:St) (K:KW):aN prog C (bD 200) (bF 200) 200 [a0] S K=aU3 C a0 S K:=congrFun (congrFun (congrFun (congrFun aU4 C) a0) S) K
theorem bMg {a0:V} {v:V} (hc:cloVs [a0]=true) (h:aU3 C a0 ⟨0,.nil⟩ fun v0 S0=>bY S0 v0=.ok v):Fv 200 [a0] v:=Go.AM.Fn.of (p:=bD 200) (lv:=bF 200) (by kernel_rfl) hc (by rw [bMf];exact h)
theorem bMh (C:aC) (a0 a1:V) (S:St) (K:KW):aN prog C (bD 201) (bF 201) 201 [a0,a1] S K=aU5 C a0 a1 S K:=congrFun (congrFun (congrFun (congrFun (congrFun aU6 C) a0) a1) S) K
theorem bMi {a0 a1:V} {v:V} (hc:cloVs [a0,a1]=true) (h:aU5 C a0 a1 ⟨0,.nil⟩ fun v0 S0=>bY S0 v0=.ok v):Fv 201 [a0,a1] v:=Go.AM.Fn.of (p:=bD 201) (lv:=bF 201) (by kernel_rfl) hc (by rw [bMh];exact h)
theorem bMj (C:aC) (a0 a1:V) (S:St) (K:KW):aN prog C (bD 203) (bF 203) 203 [a0,a1] S K=aU7 C a0 a1 S K:=congrFun (congrFun (congrFun (congrFun (congrFun aU8 C) a0) a1) S) K
theorem bMk {a0 a1:V} {v:V} (hc:cloVs [a0,a1]=true) (h:aU7 C a0 a1 ⟨0,.nil⟩ fun v0 S0=>bY S0 v0=.ok v):Fv 203 [a0,a1] v:=Go.AM.Fn.of (p:=bD 203) (lv:=bF 203) (by kernel_rfl) hc (by rw [bMj];exact h)
theorem bMl (C:aC) (a0:V) (S:St) (K:KW):aN prog C (bD 204) (bF 204) 204 [a0] S K=aU9 C a0 S K:=congrFun (congrFun (congrFun (congrFun aUa C) a0) S) K
theorem bMm {a0:V} {v:V} (hc:cloVs [a0]=true) (h:aU9 C a0 ⟨0,.nil⟩ fun v0 S0=>bY S0 v0=.ok v):Fv 204 [a0] v:=Go.AM.Fn.of (p:=bD 204) (lv:=bF 204) (by kernel_rfl) hc (by rw [bMl];exact h)
theorem bMn (C:aC) (a0 a1:V) (S:St) (K:KW):aN prog C (bD 217) (bF 217) 217 [a0,a1] S K=aUb C a0 a1 S K:=congrFun (congrFun (congrFun (congrFun (congrFun aUc C) a0) a1) S) K
theorem bMo {a0 a1:V} {v:V} (hc:cloVs [a0,a1]=true) (h:aUb C a0 a1 ⟨0,.nil⟩ fun v0 S0=>bY S0 v0=.ok v):Fv 217 [a0,a1] v:=Go.AM.Fn.of (p:=bD 217) (lv:=bF 217) (by kernel_rfl) hc (by rw [bMn];exact h)
theorem bMp (C:aC) (a0:V) (S:St) (K:KW):aN prog C (bD 218) (bF 218) 218 [a0] S K=aUd C a0 S K:=congrFun (congrFun (congrFun (congrFun aUe C) a0) S) K
theorem bMq {a0:V} {v:V} (hc:cloVs [a0]=true) (h:aUd C a0 ⟨0,.nil⟩ fun v0 S0=>bY S0 v0=.ok v):Fv 218 [a0] v:=Go.AM.Fn.of (p:=bD 218) (lv:=bF 218) (by kernel_rfl) hc (by rw [bMp];exact h)
theorem bEh:tX 218=some (.val (bD 218)):=by kernel_rfl
theorem bMr (C:aC) (a0 a1:V) (S:St) (K:KW):aN prog C (bD 219) (bF 219) 219 [a0,a1] S K=aUf C a0 a1 S K:=congrFun (congrFun (congrFun (congrFun (congrFun aUg C) a0) a1) S) K
theorem bMs {a0 a1:V} {v:V} (hc:cloVs [a0,a1]=true) (h:aUf C a0 a1 ⟨0,.nil⟩ fun v0 S0=>bY S0 v0=.ok v):Fv 219 [a0,a1] v:=Go.AM.Fn.of (p:=bD 219) (lv:=bF 219) (by kernel_rfl) hc (by rw [bMr];exact h)
theorem bMt (C:aC) (a0:V) (S:St) (K:KW):aN prog C (bD 220) (bF 220) 220 [a0] S K=aUh C a0 S K:=congrFun (congrFun (congrFun (congrFun aUi C) a0) S) K
theorem bMu {a0:V} {v:V} (hc:cloVs [a0]=true) (h:aUh C a0 ⟨0,.nil⟩ fun v0 S0=>bY S0 v0=.ok v):Fv 220 [a0] v:=Go.AM.Fn.of (p:=bD 220) (lv:=bF 220) (by kernel_rfl) hc (by rw [bMt];exact h)
theorem bMv (C:aC) (a0:V) (S:St) (K:KW):aN prog C (bD 225) (bF 225) 225 [a0] S K=aUj C a0 S K:=congrFun (congrFun (congrFun (congrFun aUk C) a0) S) K
theorem bMw {a0:V} {v:V} (hc:cloVs [a0]=true) (h:aUj C a0 ⟨0,.nil⟩ fun v0 S0=>bY S0 v0=.ok v):Fv 225 [a0] v:=Go.AM.Fn.of (p:=bD 225) (lv:=bF 225) (by kernel_rfl) hc (by rw [bMv];exact h)
theorem bMx (C:aC) (a0:V) (S:St) (K:KW):aN prog C (bD 226) (bF 226) 226 [a0] S K=aUl C a0 S K:=congrFun (congrFun (congrFun (congrFun aUm C) a0) S) K
theorem bMy {a0:V} {v:V} (hc:cloVs [a0]=true) (h:aUl C a0 ⟨0,.nil⟩ fun v0 S0=>bY S0 v0=.ok v):Fv 226 [a0] v:=Go.AM.Fn.of (p:=bD 226) (lv:=bF 226) (by kernel_rfl) hc (by rw [bMx];exact h)
theorem bMz (C:aC) (a0 a1:V) (S:St) (K:KW):aN prog C (bD 227) (bF 227) 227 [a0,a1] S K=aZ1 C a0 a1 S K:=congrFun (congrFun (congrFun (congrFun (congrFun aUn C) a0) a1) S) K
theorem bEi:tX 227=some (.val (bD 227)):=by kernel_rfl
theorem bN0 (C:aC) (a0:V) (S:St) (K:KW):aN prog C (bD 228) (bF 228) 228 [a0] S K=aUo C a0 S K:=congrFun (congrFun (congrFun (congrFun aUp C) a0) S) K
theorem bN1 {a0:V} {v:V} (hc:cloVs [a0]=true) (h:aUo C a0 ⟨0,.nil⟩ fun v0 S0=>bY S0 v0=.ok v):Fv 228 [a0] v:=Go.AM.Fn.of (p:=bD 228) (lv:=bF 228) (by kernel_rfl) hc (by rw [bN0];exact h)
theorem bN2 (C:aC) (a0 a1:V) (S:St) (K:KW):aN prog C (bD 229) (bF 229) 229 [a0,a1] S K=aUq C a0 a1 S K:=congrFun (congrFun (congrFun (congrFun (congrFun aUr C) a0) a1) S) K
theorem bN3 {a0 a1:V} {v:V} (hc:cloVs [a0,a1]=true) (h:aUq C a0 a1 ⟨0,.nil⟩ fun v0 S0=>bY S0 v0=.ok v):Fv 229 [a0,a1] v:=Go.AM.Fn.of (p:=bD 229) (lv:=bF 229) (by kernel_rfl) hc (by rw [bN2];exact h)
theorem bN4 (C:aC) (a0 a1:V) (S:St) (K:KW):aN prog C (bD 231) (bF 231) 231 [a0,a1] S K=aZ2 C a0 a1 S K:=congrFun (congrFun (congrFun (congrFun (congrFun aUs C) a0) a1) S) K
theorem bEj:tX 231=some (.val (bD 231)):=by kernel_rfl
theorem bN5 (C:aC) (a0 a1:V) (S:St) (K:KW):aN prog C (bD 232) (bF 232) 232 [a0,a1] S K=aZ3 C a0 a1 S K:=congrFun (congrFun (congrFun (congrFun (congrFun aUt C) a0) a1) S) K
theorem bEk:tX 232=some (.val (bD 232)):=by kernel_rfl
theorem bN6 (C:aC) (a0 a1:V) (S:St) (K:KW):aN prog C (bD 233) (bF 233) 233 [a0,a1] S K=aUu C a0 a1 S K:=congrFun (congrFun (congrFun (congrFun (congrFun aUv C) a0) a1) S) K
theorem bN7 {a0 a1:V} {v:V} (hc:cloVs [a0,a1]=true) (h:aUu C a0 a1 ⟨0,.nil⟩ fun v0 S0=>bY S0 v0=.ok v):Fv 233 [a0,a1] v:=Go.AM.Fn.of (p:=bD 233) (lv:=bF 233) (by kernel_rfl) hc (by rw [bN6];exact h)
theorem bN8 (C:aC) (a0:V) (S:St) (K:KW):aN prog C (bD 235) (bF 235) 235 [a0] S K=aUw C a0 S K:=congrFun (congrFun (congrFun (congrFun aUx C) a0) S) K
theorem bN9 {a0:V} {S:St} {K:KW} (hc:cloVs [a0]=true) (h:aUw C a0 ⟨0,.nil⟩ fun v0 S0=>wR (pJ [0] v0 S0 S) fun r=>K r.1 r.2):C 235 [a0] S K:=aXp (p:=bD 235) (lv:=bF 235) (by kernel_rfl) hc (by rw [bN8];exact h)
theorem bNa (C:aC) (a0 a1:V) (S:St) (K:KW):aN prog C (bD 236) (bF 236) 236 [a0,a1] S K=aUy C a0 a1 S K:=congrFun (congrFun (congrFun (congrFun (congrFun aUz C) a0) a1) S) K
theorem bNb {a0 a1:V} {v:V} (hc:cloVs [a0,a1]=true) (h:aUy C a0 a1 ⟨0,.nil⟩ fun v0 S0=>bY S0 v0=.ok v):Fv 236 [a0,a1] v:=Go.AM.Fn.of (p:=bD 236) (lv:=bF 236) (by kernel_rfl) hc (by rw [bNa];exact h)
theorem bNc (C:aC) (a0 a1 a2:V) (S:St) (K:KW):aN prog C (bD 238) (bF 238) 238 [a0,a1,a2] S K=aV0 C a0 a1 a2 S K:=congrFun (congrFun (congrFun (congrFun (congrFun (congrFun aV1 C) a0) a1) a2) S) K
theorem bNd {a0 a1 a2:V} {v:V} (hc:cloVs [a0,a1,a2]=true) (h:aV0 C a0 a1 a2 ⟨0,.nil⟩ fun v0 S0=>bY S0 v0=.ok v):Fv 238 [a0,a1,a2] v:=Go.AM.Fn.of (p:=bD 238) (lv:=bF 238) (by kernel_rfl) hc (by rw [bNc];exact h)
theorem bNe (C:aC) (a0 a1 a2:V) (S:St) (K:KW):aN prog C (bD 239) (bF 239) 239 [a0,a1,a2] S K=aV2 C a0 a1 a2 S K:=congrFun (congrFun (congrFun (congrFun (congrFun (congrFun aV3 C) a0) a1) a2) S) K
theorem bNf {a0 a1 a2:V} {S:St} {K:KW} (h:aV2 C a0 a1 a2 S K):C 239 [a0,a1,a2] S K:=kY (p:=bD 239) (lv:=bF 239) (by kernel_rfl) (by rw [bNe];exact h)
theorem bNg (C:aC) (a0 a1:V) (S:St) (K:KW):aN prog C (bD 241) (bF 241) 241 [a0,a1] S K=aV4 C a0 a1 S K:=congrFun (congrFun (congrFun (congrFun (congrFun aV5 C) a0) a1) S) K
theorem bNh {a0 a1:V} {v:V} (hc:cloVs [a0,a1]=true) (h:aV4 C a0 a1 ⟨0,.nil⟩ fun v0 S0=>bY S0 v0=.ok v):Fv 241 [a0,a1] v:=Go.AM.Fn.of (p:=bD 241) (lv:=bF 241) (by kernel_rfl) hc (by rw [bNg];exact h)
theorem bNi (C:aC) (a0 a1 a2:V) (S:St) (K:KW):aN prog C (bD 254) (bF 254) 254 [a0,a1,a2] S K=aV6 C a0 a1 a2 S K:=congrFun (congrFun (congrFun (congrFun (congrFun (congrFun aV7 C) a0) a1) a2) S) K
theorem bNj {a0 a1 a2:V} {v:V} (hc:cloVs [a0,a1,a2]=true) (h:aV6 C a0 a1 a2 ⟨0,.nil⟩ fun v0 S0=>bY S0 v0=.ok v):Fv 254 [a0,a1,a2] v:=Go.AM.Fn.of (p:=bD 254) (lv:=bF 254) (by kernel_rfl) hc (by rw [bNi];exact h)
theorem bNk (C:aC) (a0:V) (S:St) (K:KW):aN prog C (bD 259) (bF 259) 259 [a0] S K=aPp C a0 S K:=congrFun (congrFun (congrFun (congrFun aV8 C) a0) S) K
theorem bEl {a0:V} {S:St} {K:KW} (h:aPp C a0 S K):C 259 [a0] S K:=kY (p:=bD 259) (lv:=bF 259) (by kernel_rfl) (by rw [bNk];exact h)
theorem bNl (C:aC) (a0 a1:V) (S:St) (K:KW):aN prog C (bD 260) (bF 260) 260 [a0,a1] S K=aV9 C a0 a1 S K:=congrFun (congrFun (congrFun (congrFun (congrFun aVa C) a0) a1) S) K
theorem bNm {a0 a1:V} {v:V} (hc:cloVs [a0,a1]=true) (h:aV9 C a0 a1 ⟨0,.nil⟩ fun v0 S0=>bY S0 v0=.ok v):Fv 260 [a0,a1] v:=Go.AM.Fn.of (p:=bD 260) (lv:=bF 260) (by kernel_rfl) hc (by rw [bNl];exact h)
theorem bNn (C:aC) (a0 a1:V) (S:St) (K:KW):aN prog C (bD 263) (bF 263) 263 [a0,a1] S K=aZ4 C a0 a1 S K:=congrFun (congrFun (congrFun (congrFun (congrFun aVb C) a0) a1) S) K
theorem bEm:tX 263=some (.val (bD 263)):=by kernel_rfl
theorem bNo (C:aC) (a0 a1 a2:V) (S:St) (K:KW):aN prog C (bD 268) (bF 268) 268 [a0,a1,a2] S K=aVc C a0 a1 a2 S K:=congrFun (congrFun (congrFun (congrFun (congrFun (congrFun aVd C) a0) a1) a2) S) K
theorem bNp {a0 a1 a2:V} {v:V} (hc:cloVs [a0,a1,a2]=true) (h:aVc C a0 a1 a2 ⟨0,.nil⟩ fun v0 S0=>bY S0 v0=.ok v):Fv 268 [a0,a1,a2] v:=Go.AM.Fn.of (p:=bD 268) (lv:=bF 268) (by kernel_rfl) hc (by rw [bNo];exact h)
theorem bNq (C:aC) (a0 a1 a2 a3:V) (S:St) (K:KW):aN prog C (bD 269) (bF 269) 269 [a0,a1,a2,a3] S K=aVe C a0 a1 a2 a3 S K:=congrFun (congrFun (congrFun (congrFun (congrFun (congrFun (congrFun aVf C) a0) a1) a2) a3) S) K
theorem bNr {a0 a1 a2 a3:V} {S:St} {K:KW} (h:aVe C a0 a1 a2 a3 S K):C 269 [a0,a1,a2,a3] S K:=kY (p:=bD 269) (lv:=bF 269) (by kernel_rfl) (by rw [bNq];exact h)
theorem bNs (C:aC) (a0:V) (S:St) (K:KW):aN prog C (bD 270) (bF 270) 270 [a0] S K=aVg C a0 S K:=congrFun (congrFun (congrFun (congrFun aVh C) a0) S) K
theorem bNt {a0:V} {S:St} {K:KW} (h:aVg C a0 S K):C 270 [a0] S K:=kY (p:=bD 270) (lv:=bF 270) (by kernel_rfl) (by rw [bNs];exact h)
theorem bNu (C:aC) (a0 a1:V) (S:St) (K:KW):aN prog C (bD 271) (bF 271) 271 [a0,a1] S K=aVi C a0 a1 S K:=congrFun (congrFun (congrFun (congrFun (congrFun aVj C) a0) a1) S) K
theorem bNv {a0 a1:V} {v:V} (hc:cloVs [a0,a1]=true) (h:aVi C a0 a1 ⟨0,.nil⟩ fun v0 S0=>bY S0 v0=.ok v):Fv 271 [a0,a1] v:=Go.AM.Fn.of (p:=bD 271) (lv:=bF 271) (by kernel_rfl) hc (by rw [bNu];exact h)
theorem bNw (C:aC) (a0 a1 a2:V) (S:St) (K:KW):aN prog C (bD 278) (bF 278) 278 [a0,a1,a2] S K=aVk C a0 a1 a2 S K:=congrFun (congrFun (congrFun (congrFun (congrFun (congrFun aVl C) a0) a1) a2) S) K
theorem bNx {a0 a1 a2:V} {v:V} (hc:cloVs [a0,a1,a2]=true) (h:aVk C a0 a1 a2 ⟨0,.nil⟩ fun v0 S0=>bY S0 v0=.ok v):Fv 278 [a0,a1,a2] v:=Go.AM.Fn.of (p:=bD 278) (lv:=bF 278) (by kernel_rfl) hc (by rw [bNw];exact h)
theorem bNy (C:aC) (a0 a1:V) (S:St) (K:KW):aN prog C (bD 279) (bF 279) 279 [a0,a1] S K=aVm C a0 a1 S K:=congrFun (congrFun (congrFun (congrFun (congrFun aVn C) a0) a1) S) K
theorem bNz {a0 a1:V} {v:V} (hc:cloVs [a0,a1]=true) (h:aVm C a0 a1 ⟨0,.nil⟩ fun v0 S0=>bY S0 v0=.ok v):Fv 279 [a0,a1] v:=Go.AM.Fn.of (p:=bD 279) (lv:=bF 279) (by kernel_rfl) hc (by rw [bNy];exact h)
theorem bO0 (C:aC) (a0:V) (S:St) (K:KW):aN prog C (bD 286) (bF 286) 286 [a0] S K=aVo C a0 S K:=congrFun (congrFun (congrFun (congrFun aVp C) a0) S) K
theorem bO1 {a0:V} {v:V} (hc:cloVs [a0]=true) (h:aVo C a0 ⟨0,.nil⟩ fun v0 S0=>bY S0 v0=.ok v):Fv 286 [a0] v:=Go.AM.Fn.of (p:=bD 286) (lv:=bF 286) (by kernel_rfl) hc (by rw [bO0];exact h)
theorem bO2 (C:aC) (a0 a1:V) (S:St) (K:KW):aN prog C (bD 287) (bF 287) 287 [a0,a1] S K=aVq C a0 a1 S K:=congrFun (congrFun (congrFun (congrFun (congrFun aVr C) a0) a1) S) K
theorem bO3 {a0 a1:V} {v:V} (hc:cloVs [a0,a1]=true) (h:aVq C a0 a1 ⟨0,.nil⟩ fun v0 S0=>bY S0 v0=.ok v):Fv 287 [a0,a1] v:=Go.AM.Fn.of (p:=bD 287) (lv:=bF 287) (by kernel_rfl) hc (by rw [bO2];exact h)
end Go.Proofs.YtoaibmbldmckaaaGreat
end
section
namespace Go.AM
open Go.RowKit Go.Lib Go.Proofs Go.Shelf
theorem aBi {P:Program} {t:TypeId} (h:(P.info? t).isSome=true) (w:World):(Go.sizeOf t).run P w=.ok (sz P t) w:=by
 obtain ⟨i,hi⟩:=Option.isSome_iff_exists.1 h
 simp [sizeOf,typeInfo,hi,iG hi]
theorem jR {P:Program} {t:TypeId} (h:(P.info? t).map (·.size)=some 1) (w:World):(Go.sizeOf t).run P w=.ok 1 w:=by
 cases hi:P.info? t with
 | none=>rw [hi] at h;cases h
 | some i=>rw [hi] at h;simp [sizeOf,typeInfo,hi] at h ⊢;exact h
theorem oC {P:Program} {f:FuncId} {T e I B:TypeId} {ov rr:FuncId} {fn fo:Func} (mixed:P.follows .mixedOrders=true) (hf:P.funcs[f]?=some fn) (hb:fn.body=some (vI T I B ov rr)) (hn:fn.ntmps=95) (hr:fn.results=#[.tmp 6])
  (tT:P.underlying T=some (.slice e)) (tI:P.underlying I=some (.int .i64)) (tB:P.underlying B=some .bool)
  (ho:P.funcs[ov]?=some fo) (o1:(fo.name == "runtime.NumGoroutine")=false) (o2:fo.body.isNone=true) (o3:Extern.findNext fo=none) (o4:Extern.find fo=some (Extern.SlicesOverlaps.overlaps #[T,T] #[B]))
  (zE:(P.info? e).isSome=true) (zT:(P.info? T).map (·.size)=some 1) (zI:(P.info? I).map (·.size)=some 1) (zB:(P.info? B).map (·.size)=some 1):InsAt P f T e I B ov rr fn:=
 ⟨mixed,hf,hb,hn,hr,tT,tI,tB,run_callFunc_extern ho o1 o2 o3 o4,aBi zE,jR zT,jR zI,jR zB⟩
theorem aPr {P:Program} {f:FuncId} {T e I B:TypeId} {fn:Func} (mixed:P.follows .mixedOrders=true) (hf:P.funcs[f]?=some fn) (hb:fn.body=some (aA0 T I B)) (hn:fn.ntmps=33) (hr:fn.results=#[.tmp 6])
  (tT:P.underlying T=some (.slice e)) (tI:P.underlying I=some (.int .i64)) (tB:P.underlying B=some .bool)
  (zE:(P.info? e).isSome=true) (zT:(P.info? T).map (·.size)=some 1) (zI:(P.info? I).map (·.size)=some 1) (zB:(P.info? B).map (·.size)=some 1):DelAt P f T e I B fn:=
 ⟨mixed,hf,hb,hn,hr,tT,tI,tB,aBi zE,jR zT,jR zI,jR zB⟩
end Go.AM
end
section
namespace Go.Proofs.YtoaibmbldmckaaaGreat
open Go.RowKit Go.AM Tryz
theorem bEn:SpecOK prog 202 ((Sp.ins 68).run prog):=
 iJ (e:=76) (I:=3) (B:=4) (ov:=247) (rr:=248) (fn:=Tryz.f202) (oC (fo:=Tryz.f247) (by kernel_rfl) (by kernel_rfl) (by kernel_rfl) (by kernel_rfl) (by kernel_rfl)
  (by kernel_rfl) (by kernel_rfl) (by kernel_rfl) (by kernel_rfl) (by kernel_rfl) (by kernel_rfl) (by kernel_rfl) (by kernel_rfl) (by kernel_rfl) (by kernel_rfl) (by kernel_rfl) (by kernel_rfl)) (by kernel_rfl)
theorem bEo:SpecOK prog 221 ((Sp.ins 27).run prog):=
 iJ (e:=90) (I:=3) (B:=4) (ov:=256) (rr:=257) (fn:=Tryz.f221) (oC (fo:=Tryz.f256) (by kernel_rfl) (by kernel_rfl) (by kernel_rfl) (by kernel_rfl) (by kernel_rfl)
  (by kernel_rfl) (by kernel_rfl) (by kernel_rfl) (by kernel_rfl) (by kernel_rfl) (by kernel_rfl) (by kernel_rfl) (by kernel_rfl) (by kernel_rfl) (by kernel_rfl) (by kernel_rfl) (by kernel_rfl)) (by kernel_rfl)
theorem bEp:SpecOK prog 230 ((Sp.ins 28).run prog):=
 iJ (e:=132) (I:=3) (B:=4) (ov:=261) (rr:=262) (fn:=Tryz.f230) (oC (fo:=Tryz.f261) (by kernel_rfl) (by kernel_rfl) (by kernel_rfl) (by kernel_rfl) (by kernel_rfl)
  (by kernel_rfl) (by kernel_rfl) (by kernel_rfl) (by kernel_rfl) (by kernel_rfl) (by kernel_rfl) (by kernel_rfl) (by kernel_rfl) (by kernel_rfl) (by kernel_rfl) (by kernel_rfl) (by kernel_rfl)) (by kernel_rfl)
theorem bEq:SpecOK prog 234 ((Sp.ins 25).run prog):=
 iJ (e:=126) (I:=3) (B:=4) (ov:=264) (rr:=265) (fn:=Tryz.f234) (oC (fo:=Tryz.f264) (by kernel_rfl) (by kernel_rfl) (by kernel_rfl) (by kernel_rfl) (by kernel_rfl)
  (by kernel_rfl) (by kernel_rfl) (by kernel_rfl) (by kernel_rfl) (by kernel_rfl) (by kernel_rfl) (by kernel_rfl) (by kernel_rfl) (by kernel_rfl) (by kernel_rfl) (by kernel_rfl) (by kernel_rfl)) (by kernel_rfl)
theorem bEr:SpecOK prog 237 ((Sp.ins 24).run prog):=
 iJ (e:=54) (I:=3) (B:=4) (ov:=266) (rr:=267) (fn:=Tryz.f237) (oC (fo:=Tryz.f266) (by kernel_rfl) (by kernel_rfl) (by kernel_rfl) (by kernel_rfl) (by kernel_rfl)
  (by kernel_rfl) (by kernel_rfl) (by kernel_rfl) (by kernel_rfl) (by kernel_rfl) (by kernel_rfl) (by kernel_rfl) (by kernel_rfl) (by kernel_rfl) (by kernel_rfl) (by kernel_rfl) (by kernel_rfl)) (by kernel_rfl)
theorem bEs:SpecOK prog 280 ((Sp.ins 80).run prog):=
 iJ (e:=145) (I:=3) (B:=4) (ov:=288) (rr:=289) (fn:=Tryz.f280) (oC (fo:=Tryz.f288) (by kernel_rfl) (by kernel_rfl) (by kernel_rfl) (by kernel_rfl) (by kernel_rfl)
  (by kernel_rfl) (by kernel_rfl) (by kernel_rfl) (by kernel_rfl) (by kernel_rfl) (by kernel_rfl) (by kernel_rfl) (by kernel_rfl) (by kernel_rfl) (by kernel_rfl) (by kernel_rfl) (by kernel_rfl)) (by kernel_rfl)
theorem bEt:SpecOK prog 240 ((Sp.del 28).run prog):=
 aH8 (e:=132) (I:=3) (B:=4) (fn:=Tryz.f240) (aPr (by kernel_rfl) (by kernel_rfl) (by kernel_rfl) (by kernel_rfl) (by kernel_rfl)
  (by kernel_rfl) (by kernel_rfl) (by kernel_rfl) (by kernel_rfl) (by kernel_rfl) (by kernel_rfl) (by kernel_rfl)) (by kernel_rfl)
theorem gX {P:Program} {a b:gV} (h:gH P a=true) (k:gH P b=true):gH P (a++b)=true:=by unfold gH at *;rw [List.all_append,h,k];rfl
theorem bAv:SpAll prog dSp:=⟨bEn,bEo,bEp,bEq,bEr,bEs,bEt,trivial⟩
theorem aPs:aS4=aPc++(aPd++(aPe++(aPf++(aPg++(aPh++(aPi++(aPj++(aPk++(aPl++(aL7++(aL8++(aL9++(aLa++(aLb++(aLc++(aLd)))))))))))))))):=rfl
theorem aWv:gH prog aS4=true:=by
 rw [aPs]
 exact gX aMw (gX aMx (gX aMy (gX aMz (gX aN0 (gX aN1 (gX aN2 (gX aN3 (gX aN4 (gX aN5 (gX aJb (gX aJc (gX aJd (gX aJe (gX aJf (gX aJg (aJh))))))))))))))))
theorem aN8:PlansOK prog tX:=aIw (by kernel_rfl) bAv aWv
end Go.Proofs.YtoaibmbldmckaaaGreat
end
section
namespace Go.Proofs.YtoaibmbldmckaaaGreat
open Go.AM Tryz
def aJx (y:Int):Bool:=if y.tmod 4=0 then (if y.tmod 100=0 then decide (y.tmod 400=0) else true) else false
def fN (y m:Int):Int:=if m=2 then (if aJx y=true then 29 else 28) else if m=4∨m=6∨m=9∨m=11 then 30 else 31
structure Date where
 y:Int
 m:Int
 d:Int
deriving DecidableEq
def Date.enc (d:Date):List V:=[.int .i64 d.y,.int .i64 d.m,.int .i64 d.d]
def Date.right (d:Date):Bool:=decide (1≤d.y)&&(decide (d.y≤9999)&&(decide (1≤d.m)&&(decide (d.m≤12)&&(decide (1≤d.d)&&decide (d.d≤fN d.y d.m)))))
def ahead (y:Int):Int:=
 wr .i64 (wr .i64 (wr .i64 (wr .i64 (365*wr .i64 (y - 1))+wr .i64 ((wr .i64 (y - 1)).tdiv 4)) - wr .i64 ((wr .i64 (y - 1)).tdiv 100))+wr .i64 ((wr .i64 (y - 1)).tdiv 400))
def lQ (y:Int) (n:Int) (i:Nat):Int⊕Int:=.inr (wr .i64 (n+fN y ((i:Int)+1)))
def Date.days (d:Date):Int:=if d.right=true then wr .i64 (wr .i64 (aS (lQ d.y) id (List.range (d.m - 1).toNat) (ahead d.y)+d.d) - 1) else -1
def Date.before (a b:Date):Bool:=a.right&&(b.right&&decide (a.days<b.days))
def cN (a b:Int):Int×Int:=
 if (0<b∧wr .i64 (9223372036854775807 - b)<a)∨(b<0∧a<wr .i64 (-9223372036854775808 - b)) then (0,7) else (wr .i64 (a+b),0)
def jS (a b:Int):Int×Int:=
 if (b<0∧wr .i64 (9223372036854775807+b)<a)∨(0<b∧a<wr .i64 (-9223372036854775808+b)) then (0,7) else (wr .i64 (a - b),0)
def fY (r:Int×Int):V:=.tup [.int .i64 r.1,.int .i64 r.2]
def aN9 (n:Int):Int:=wr .u64 ((BitVec.ofInt IntKind.u64.bits (if IntKind.u64.signed then -1 else IntKind.u64.max) ^^^ BitVec.ofInt IntKind.u64.bits n).toNat)
def oF (n:Int):Int:=if n<0 then wr .u64 (aN9 (wr .u64 n)+1) else wr .u64 n
def aAf (n:Int) (neg:Bool):Int×Bool:=
 if neg=true then (wr .i64 (wr .u64 (aN9 n+1)),decide (n≤9223372036854775808)) else (wr .i64 n,decide (n≤9223372036854775807))
def aJy (a b:Int):Int×Int:=
 if 0<oF b∧wr .u64 ((9223372036854775808:Int).tdiv (oF b))<oF a then (0,7) else
  let r:=aAf (wr .u64 (oF a*oF b)) (!(decide (a<0) == decide (b<0)))
  if r.2=true then (r.1,0) else (0,7)
def cG (n bp:Int):Int×Int:=
 if bp<0∨100000<bp then (0,1) else
  let u:=oF n
  let p:=wr .u64 bp
  let many:=wr .u64 (u.tdiv 10000)
  let rest:=u.tmod 10000
  if 0<p∧wr .u64 ((9223372036854775807:Int).tdiv p)<many then (0,7) else
   let out:=wr .u64 (wr .u64 (many*p)+wr .u64 ((wr .u64 (wr .u64 (wr .u64 (2*rest)*p)+10000)).tdiv (wr .u64 (2*10000))))
   if 9223372036854775807<out then (0,7) else if n<0 then (wr .i64 (0 - wr .i64 out),0) else (wr .i64 out,0)
theorem aBj:wr .u64 (2*10000)=20000:=by decide
theorem bAw:wr .u64 10000=10000:=by decide
def vW (r:Int):Bool:=
 if (97≤r∧r≤122)∨(65≤r∧r≤90) then true else if r=215 then false else if r=247 then false else decide (192≤r)&&decide (r≤591)
def mV (s:List UInt8):Nat→Nat→List (Nat×Nat)
 | 0,_=>[]
 | f+1,pos=>if pos<s.length then (pos,(Utf8.decode ⟨⟨s⟩⟩ pos).1)::mV s f (pos+(Utf8.decode ⟨⟨s⟩⟩ pos).2) else []
theorem aHo (s:ByteArray) (i:Nat):1≤(Utf8.decode s i).2:=by
 unfold Utf8.decode
 simp only
 repeat' split
 all_goals simp
def vX (_:Unit) (x:Nat×Nat):Bool⊕Unit:=
 if vW x.2=true then .inr () else if x.1=0 then .inl false else if (48≤x.2∧x.2≤57)∨x.2=45∨x.2=95∨x.2=46 then .inr () else .inl false
def eL (s:List UInt8):Bool:=if s.length<1 then false else if 24<s.length then false else aS vX (fun _=>true) (mV s s.length 0) ()
structure Rate where
 cat:List UInt8
 day:Date
 bp:Int
deriving DecidableEq
def Rate.enc (r:Rate):List V:=[.str r.cat,.int .i64 r.day.y,.int .i64 r.day.m,.int .i64 r.day.d,.int .i64 r.bp]
def tY (r:Rate):Int:=if eL r.cat=false then 8 else if r.day.right=false then 9 else if r.bp<0 then 10 else if 100000<r.bp then 10 else 0
def fH (a b:Rate):Bool:=if fS a.cat b.cat=true then true else if (a.cat == b.cat)=true then a.day.before b.day else false
def iK (prev:Option Rate) (r:Rate):Bool⊕Option Rate:=
 if tY r≠0 then .inl false else match prev with
  | none=>.inr (some r)
  | some p=>if fH p r=true then .inr (some r) else .inl false
def fT (l:List Rate):Bool:=if 24<l.length then false else aS iK (fun _=>true) l none
def fU {α:Type} (l:List α) (i:Nat):Option α:=if i=0 then none else l[i - 1]?
structure Rep where
 why:Int
 number:Int
 gross:Int
deriving DecidableEq
structure Sess where
 id:Int
 last:Int
 reply:Rep
deriving DecidableEq
def Rep.enc (r:Rep):List V:=[.int .i64 r.why,.int .i64 r.number,.int .i64 r.gross]
def Sess.enc (s:Sess):List V:=[.int .i64 s.id,.int .i64 s.last,.int .i64 s.reply.why,.int .i64 s.reply.number,.int .i64 s.reply.gross]
def Rep.zero:Rep:=⟨0,0,0⟩
def iW (last:Int) (s:Sess):Bool⊕Int:=
 if s.id≤last then .inl false else if s.last<0 then .inl false else if 1099511627776<s.last then .inl false else if s.last=0∧s.reply≠Rep.zero then .inl false else .inr s.id
def fZ (l:List Sess):Bool:=if 8<l.length then false else aS iW (fun _=>true) l 0
def eS {α:Type} (p:α→Bool) (n:Nat) (a:α):Int⊕Nat:=if p a=true then .inl (n:Int) else .inr (n+1)
def ixM {α:Type} (p:α→Bool) (l:List α):Int:=aS (eS p) (fun _=>-1) l 0
theorem aDd {α:Type} (p:α→Bool):∀ (l:List α) (n:Nat),(aS (eS p) (fun _=>-1) l n=-1)∨∃ (i:Nat) (a:α),aS (eS p) (fun _=>-1) l n=((n+i:Nat):Int)∧l[i]?=some a∧p a=true
 | [],n=>.inl rfl
 | a::l,n=>by
  by_cases h:p a=true
  ·refine .inr ⟨0,a,?_,rfl,h⟩
   simp [aS,eS,h]
  ·rcases aDd p l (n+1) with h1 | ⟨i,b,h1,h2,h3⟩
   ·left;simp [aS,eS,h,h1]
   ·right
    refine ⟨i+1,b,?_,by simpa using h2,h3⟩
    simp only [aS,eS,h,if_false]
    simp only [h1,Bool.false_eq_true,if_false]
    omega
theorem sA {α:Type} (p:α→Bool) (l:List α):(ixM p l=-1)∨∃ (i:Nat) (a:α),ixM p l=(i:Int)∧l[i]?=some a∧p a=true:=by
 rcases aDd p l 0 with h | ⟨i,a,h1,h2,h3⟩
 ·exact .inl h
 ·exact .inr ⟨i,a,by rw [ixM,h1];simp,h2,h3⟩
def gL (l:List Sess) (id:Int):Int:=ixM (fun s:Sess=>decide (s.id=id)) l
def cJ (l:List Sess) (id seq:Int):Rep×Bool×Int:=
 if fZ l=false then (Rep.zero,false,1) else if gL l id<0 then (Rep.zero,false,15) else if seq<1∨1099511627776<seq then (Rep.zero,false,1) else
  match l[(gL l id).toNat]? with
  | none=>(Rep.zero,false,1)
  | some s=>if seq=s.last then (s.reply,true,0) else if seq<s.last then (Rep.zero,false,16) else (Rep.zero,false,0)
theorem lR {l:List Sess} (h:fZ l=true):l.length≤8:=by
 unfold fZ at h
 split at h
 ·cases h
 ·omega
theorem iX (l:List Sess) (id:Int):gL l id=-1∨∃ (i:Nat) (s:Sess),gL l id=(i:Int)∧l[i]?=some s∧s.id=id:=by
 rcases sA (fun s:Sess=>decide (s.id=id)) l with h | ⟨i,s,h1,h2,h3⟩
 ·exact .inl h
 ·exact .inr ⟨i,s,h1,h2,of_decide_eq_true h3⟩
def eM {α:Type} (p:α→Bool) (n:Nat) (a:α):Nat⊕Nat:=if p a=true then .inr (n+1) else .inl n
def kZ {α:Type} (p:α→Bool) (l:List α):Nat:=aS (eM p) id l 0
theorem aDe {α:Type} (p:α→Bool):∀ (l:List α) (n:Nat),aS (eM p) id l n≤n+l.length
 | [],n=>by simp [aS]
 | a::l,n=>by
  have ih:=aDe p l (n+1)
  by_cases h:p a=true
  ·simp only [aS,eM,h,if_true,List.length_cons];omega
  ·simp only [aS,eM,h,if_false,List.length_cons,Bool.false_eq_true];omega
theorem vY {α:Type} (p:α→Bool) (l:List α):kZ p l≤l.length:=by have:=aDe p l 0;simp only [kZ];omega
def fB {α:Type} (l:List α) (i:Nat) (a:α):List α:=l.take i++a::l.drop i
theorem lS {α β:Type} (f:α→β) (l:List α) (i:Nat) (a:α):(fB l i a).map f=(l.map f).take i++f a::(l.map f).drop i:=by simp [fB,List.map_take,List.map_drop]
def mW (l:List Sess) (id:Int):List Sess×Int:=
 if fZ l=false∨id<1 then ([],1) else if 0≤gL l id then ([],12) else if 8≤l.length then ([],14) else (fB l (kZ (fun s=>decide (s.id<id)) l) ⟨id,0,Rep.zero⟩,0)
def tZ {α:Type} (l:List α) (i:Nat):List α:=l.take i++l.drop (i+1)
theorem aJz {α β:Type} (f:α→β) (l:List α) (i:Nat):(tZ l i).map f=(l.map f).take i++(l.map f).drop (i+1):=by simp [tZ,List.map_take,List.map_drop]
def fV (l:List Sess) (id:Int):List Sess×Int:=
 if fZ l=false then ([],1) else if gL l id<0 then ([],11) else (tZ l (gL l id).toNat,0)
def jI (l:List Sess) (id seq:Int) (r:Rep):List Sess×Int:=
 if (cJ l id seq).2.2≠0 then ([],(cJ l id seq).2.2) else if (cJ l id seq).2.1=true then ([],12) else
  match l[(gL l id).toNat]? with
  | none=>([],0)
  | some s=>(l.set (gL l id).toNat ⟨s.id,seq,r⟩,0)
theorem aBk {l:List Sess} {id seq:Int} (h:(cJ l id seq).2.2=0):fZ l=true∧∃ (i:Nat) (s:Sess),gL l id=(i:Int)∧l[i]?=some s:=by
 unfold cJ at h
 split at h
 ·cases h
 ·rename_i hr
  have hr:fZ l=true:=by simpa using hr
  split at h
  ·cases h
  ·rcases iX l id with h' | ⟨i,s,h1,h2,_⟩
   ·omega
   ·exact ⟨hr,i,s,h1,h2⟩
structure Ser where
 name:List UInt8
 next:Int
 limit:Int
 shut:Bool
deriving DecidableEq
def Ser.enc (s:Ser):List V:=[.str s.name,.int .i64 s.next,.int .i64 s.limit,.bool s.shut]
def hU (l:List Ser) (name:List UInt8):Int:=ixM (fun s:Ser=>s.name == name) l
theorem kP (l:List Ser) (name:List UInt8):hU l name=-1∨∃ (i:Nat) (s:Ser),hU l name=(i:Int)∧l[i]?=some s∧s.name=name:=by
 rcases sA (fun s:Ser=>s.name == name) l with h | ⟨i,s,h1,h2,h3⟩
 ·exact .inl h
 ·exact .inr ⟨i,s,h1,h2,by simpa using h3⟩
def qV (s:Ser):Bool:=decide (s.limit<1)||(decide (1099511627776<s.limit)||(decide (s.next<1)||decide (wr .i64 (s.limit+1)<s.next)))
def oG (prev:Option Ser) (s:Ser):Bool:=match prev with
 | none=>false
 | some p=>!fS p.name s.name
def mX (prev:Option Ser) (s:Ser):Bool⊕Option Ser:=
 if eL s.name=false then .inl false else if oG prev s=true then .inl false else if qV s=true then .inl false else .inr (some s)
def mN (l:List Ser):Bool:=if 8<l.length then false else aS mX (fun _=>true) l none
theorem oH {l:List Ser} (h:mN l=true):l.length≤8:=by
 unfold mN at h
 split at h
 ·cases h
 ·omega
def hZ (l:List Ser) (name:List UInt8):Int×Int:=
 if mN l=false then (0,1) else if hU l name<0 then (0,11) else match l[(hU l name).toNat]? with
  | none=>(0,1)
  | some s=>if s.shut=true then (0,13) else (hU l name,0)
theorem vZ {l:List Ser} {name:List UInt8} (h:(hZ l name).2=0):mN l=true∧∃ (i:Nat) (s:Ser),hZ l name=((i:Int),0)∧hU l name=(i:Int)∧l[i]?=some s∧s.name=name∧s.shut=false:=by
 unfold hZ at h
 split at h
 ·cases h
 ·rename_i hr
  have hr:mN l=true:=by simpa using hr
  split at h
  ·cases h
  ·rename_i h11
   rcases kP l name with h' | ⟨i,s,h1,h2,h3⟩
   ·omega
   ·rw [h1] at h
    simp only [Int.toNat_natCast,h2] at h
    split at h
    ·cases h
    ·rename_i hsh
     refine ⟨hr,i,s,?_,h1,h2,h3,by simpa using hsh⟩
     unfold hZ
     rw [if_neg (by rw [hr];simp),if_neg h11,h1]
     simp only [Int.toNat_natCast,h2,if_neg hsh]
def oI (l:List Ser) (name:List UInt8):List Ser×Int:=
 if (hZ l name).2≠0 then ([],(hZ l name).2) else match l[(hZ l name).1.toNat]? with
  | none=>([],0)
  | some s=>(l.set (hZ l name).1.toNat { s with shut:=true },0)
def dB (l:List Ser) (name:List UInt8):List Ser×Int×Int:=
 if (hZ l name).2≠0 then ([],0,(hZ l name).2) else match l[(hZ l name).1.toNat]? with
  | none=>([],0,0)
  | some s=>if s.limit<s.next then ([],0,14) else (l.set (hZ l name).1.toNat { s with next:=wr .i64 (s.next+1) },s.next,0)
def eW (l:List Ser) (name:List UInt8) (limit:Int):List Ser×Int:=
 if mN l=false then ([],1) else if eL name=false then ([],8) else if limit<1∨1099511627776<limit then ([],1) else if 0≤hU l name then ([],12) else if 8≤l.length then ([],14) else
  (fB l (kZ (fun s=>fS s.name name) l) ⟨name,1,limit,false⟩,0)
def Ser.zero:Ser:=⟨[],0,0,false⟩
def kC (l:List Ser) (name:List UInt8):Ser×Bool:=match (if hU l name<0 then none else l[(hU l name).toNat]?) with
 | none=>(Ser.zero,false)
 | some s=>(s,true)
def iY (cat:List UInt8) (d:Date) (st:Int×Bool) (r:Rate):(Int×Bool)⊕(Int×Bool):=.inr (if (r.cat == cat)=true∧d.before r.day=false then (r.bp,true) else st)
def iA (l:List Rate) (cat:List UInt8) (d:Date):Int×Bool:=if fT l=false then (0,false) else if d.right=false then (0,false) else aS (iY cat d) id l (0,false)
theorem uA {l:List Rate} (h:fT l=true):l.length≤24:=by
 unfold fT at h
 split at h
 ·cases h
 ·omega
def kE (r:Rate) (k:Nat) (x:Rate):Option Nat⊕Nat:=
 if (x.cat == r.cat)=true∧x.day=r.day then .inl none else .inr (if fH x r=true then k+1 else k)
def gP (l:List Rate) (r:Rate):List Rate×Int:=
 if fT l=false then ([],1) else if tY r≠0 then ([],tY r) else match aS (kE r) some l 0 with
  | none=>([],12)
  | some k=>if 24≤l.length then ([],2) else (fB l k r,0)
structure Bal where
 acc:List UInt8
 amount:Int
deriving DecidableEq
def Bal.enc (b:Bal):List V:=[.str b.acc,.int .i64 b.amount]
structure Part where
 cat:List UInt8
 bp:Int
 net:Int
 tax:Int
deriving DecidableEq
def Part.enc (p:Part):List V:=[.str p.cat,.int .i64 p.bp,.int .i64 p.net,.int .i64 p.tax]
structure Total where
 net:Int
 tax:Int
 gross:Int
 parts:List Part
deriving DecidableEq
def Total.cells (t:Total) (pv:V):List V:=[.int .i64 t.net,.int .i64 t.tax,.int .i64 t.gross,pv]
def aBl (prev:Option Bal) (b:Bal):Bool⊕Option Bal:=match prev with
 | none=>.inl false
 | some p=>if fS p.acc b.acc=true then .inr (some b) else .inl false
def aDf (l:List Bal):Bool:=aS aBl (fun _=>true) (l.drop 1) l[0]?
def aNa:List UInt8:=[110,101,116,47]
def aNb:List UInt8:=[116,97,120,47]
def sB (l:List Bal) (p:Part):(List Bal×Int)⊕List Bal:=
 if (jS 0 p.net).2≠0 then .inl ([],7) else if (jS 0 p.tax).2≠0 then .inl ([],7) else .inr (l++[⟨aNa++p.cat,(jS 0 p.net).1⟩,⟨aNb++p.cat,(jS 0 p.tax).1⟩])
def eH (t:Total):List Bal×Int:=aS sB (fun l=>(l,0)) t.parts [⟨[111,119,101,100],t.gross⟩]
theorem aHq:∀ (l:List Part) (a:List Bal) (r:List Bal×Int),aS sB (fun l=>(l,0)) l a=r→r.2=0→r.1.length=a.length+2*l.length
 | [],a,r,h,_=>by subst h;simp [aS]
 | p::l,a,r,h,h0=>by
  simp only [aS,sB] at h
  split at h
  ·rename_i r' he
   split at he
   ·cases he;subst h;cases h0
   ·split at he
    ·cases he;subst h;cases h0
    ·cases he
  ·rename_i s' he
   split at he
   ·cases he
   ·split at he
    ·cases he
    ·cases he
     have:=aHq l _ r h h0
     simp only [List.length_append,List.length_cons,List.length_nil] at this ⊢
     omega
theorem xP {α:Type} (l:List α) (i:Nat) (a:α) (h:i≤l.length):(fB l i a)[i]?=some a:=by
 unfold fB
 rw [List.getElem?_append_right (by rw [List.length_take];omega),List.length_take,Nat.min_eq_left h,Nat.sub_self]
 rfl
theorem xQ {α:Type} (l:List α) (i:Nat) (a:α) (h:i≤l.length):(fB l i a).length=l.length+1:=by
 simp only [fB,List.length_append,List.length_take,List.length_cons,List.length_drop];omega
def cD (l:List Bal) (acc:List UInt8):Nat:=kZ (fun b=>fS b.acc acc) l
def mY (l:List Bal) (acc:List UInt8):Bool:=match l[cD l acc]? with
 | none=>true
 | some b=>!(b.acc == acc)
def eE (l:List Bal) (acc:List UInt8):List Bal:=if mY l acc=true then fB l (cD l acc) ⟨acc,0⟩ else l
def dT (l:List Bal) (x:Bal):(List Bal×Int)⊕List Bal:=match (eE l x.acc)[cD l x.acc]? with
 | none=>.inl ([],0)
 | some b=>if (cN b.amount x.amount).2≠0 then .inl ([],(cN b.amount x.amount).2) else .inr ((eE l x.acc).set (cD l x.acc) ⟨b.acc,(cN b.amount x.amount).1⟩)
def cY (book l:List Bal):List Bal×Int:=if aDf book=false then ([],1) else aS dT (fun l=>(l,0)) l book
theorem qW (l:List Bal) (acc:List UInt8):cD l acc≤l.length:=vY _ _
theorem yZ (l:List Bal) (acc:List UInt8):∃ b,(eE l acc)[cD l acc]?=some b:=by
 unfold eE
 split
 ·exact ⟨_,xP _ _ _ (qW l acc)⟩
 ·rename_i h
  unfold mY at h
  split at h
  ·exact absurd rfl h
  ·rename_i b hb;exact ⟨b,hb⟩
theorem zA (l:List Bal) (acc:List UInt8):(eE l acc).length≤l.length+1:=by
 unfold eE
 split
 ·rw [xQ _ _ _ (qW l acc)];exact Nat.le_refl _
 ·omega
theorem pK (l:List Bal) (x:Bal):dT l x=if (cN ((eE l x.acc)[cD l x.acc]?.map (·.amount) |>.getD 0) x.amount).2≠0 then .inl ([],(cN ((eE l x.acc)[cD l x.acc]?.map (·.amount) |>.getD 0) x.amount).2)
  else .inr ((eE l x.acc).set (cD l x.acc) ⟨((eE l x.acc)[cD l x.acc]?.map (·.acc) |>.getD []),(cN ((eE l x.acc)[cD l x.acc]?.map (·.amount) |>.getD 0) x.amount).1⟩):=by
 obtain ⟨b,hb⟩:=yZ l x.acc
 unfold dT
 simp only [hb,Option.map_some,Option.getD_some]
theorem aCj {l l':List Bal} {x:Bal} (h:dT l x=.inr l'):l'.length≤l.length+1:=by
 rw [pK] at h
 split at h
 ·cases h
 ·cases h
  rw [List.length_set]
  exact zA l x.acc
theorem aBm:∀ (l:List Bal) (a:List Bal) (r:List Bal×Int),aS dT (fun l=>(l,0)) l a=r→r.1.length≤a.length+l.length
 | [],a,r,h=>by subst h;simp [aS]
 | x::l,a,r,h=>by
  simp only [aS] at h
  split at h
  ·rename_i r' he
   subst h
   rw [pK] at he
   split at he
   ·cases he;simp
   ·cases he
  ·rename_i s' he
   have h1:=aCj he
   have:=aBm l _ r h
   simp only [List.length_cons]
   omega
def gY (n:Int):List V:=[.int .i64 n]
theorem aNc (n:Int):0≤wr .u64 n∧wr .u64 n<18446744073709551616:=by
 unfold wr lo hi
 simp only
 split
 ·omega
 ·show 0≤n % 18446744073709551616∧n % 18446744073709551616<18446744073709551616
  omega
theorem bEu:aN9 0=18446744073709551615:=by decide
def sC (st:Int×Int) (n:Int):(Int×Bool)⊕(Int×Int):=
 .inr ((st.1+(if n<0 then 18446744073709551615 else 0)+(st.2+wr .u64 n+0) / 18446744073709551616) % 18446744073709551616,(st.2+wr .u64 n+0) % 18446744073709551616)
def qX (st:Int×Int):Int×Bool:=(wr .i64 st.2,if st.2.fdiv (2 ^ 63)=0 then decide (st.1=0) else decide (st.1=18446744073709551615))
def gZ (l:List Int):Int×Bool:=aS sC qX l (0,0)
structure Line where
 text:List UInt8
 cat:List UInt8
 count:Int
 price:Int
deriving DecidableEq
def Line.enc (l:Line):List V:=[.str l.text,.str l.cat,.int .i64 l.count,.int .i64 l.price]
def fC (tab:List Rate) (d:Date) (l:Line):Int×Int×Int:=
 if 64<l.text.length then (0,0,2) else if eL l.cat=false then (0,0,8) else if l.count<1∨1048576<l.count then (0,0,1) else
  if (iA tab l.cat d).2=false then (0,0,10) else ((iA tab l.cat d).1,(aJy l.count l.price).1,(aJy l.count l.price).2)
def aPt (r:Int×Int×Int):V:=.tup [.int .i64 r.1,.int .i64 r.2.1,.int .i64 r.2.2]
def bT (l:List Part) (cat:List UInt8):Nat:=kZ (fun p=>fS p.cat cat) l
def iZ (l:List Part) (cat:List UInt8):Bool:=match l[bT l cat]? with
 | none=>true
 | some b=>!(b.cat == cat)
def dQ (l:List Part) (cat:List UInt8) (bp:Int):List Part:=if iZ l cat=true then fB l (bT l cat) ⟨cat,bp,0,0⟩ else l
def qC (l:List Part) (cat:List UInt8) (bp n:Int):List Part×Int:=match (dQ l cat bp)[bT l cat]? with
 | none=>([],0)
 | some p=>((dQ l cat bp).set (bT l cat) { p with net:=(cN p.net n).1 },(cN p.net n).2)
theorem pL (l:List Part) (cat:List UInt8):bT l cat≤l.length:=vY _ _
theorem pM (l:List Part) (cat:List UInt8) (bp:Int):∃ b,(dQ l cat bp)[bT l cat]?=some b:=by
 unfold dQ
 split
 ·exact ⟨_,xP _ _ _ (pL l cat)⟩
 ·rename_i h
  unfold iZ at h
  split at h
  ·exact absurd rfl h
  ·rename_i b hb;exact ⟨b,hb⟩
theorem aG4 (l:List Part) (cat:List UInt8) (bp:Int):(dQ l cat bp).length≤l.length+1:=by
 unfold dQ
 split
 ·rw [xQ _ _ _ (pL l cat)];exact Nat.le_refl _
 ·omega
theorem aHr (l:List Part) (cat:List UInt8) (bp n:Int):(qC l cat bp n).1.length≤l.length+1:=by
 obtain ⟨b,hb⟩:=pM l cat bp
 unfold qC
 rw [hb]
 simp only [List.length_set]
 exact aG4 l cat bp
def Total.zero:Total:=⟨0,0,0,[]⟩
def fR (st:Int×Int×List Part) (p:Part):(Total×Int)⊕(Int×Int×List Part):=
 if (cG p.net p.bp).2≠0∨(cN st.1 p.net).2≠0∨(cN st.2.1 (cG p.net p.bp).1).2≠0 then .inl (Total.zero,7) else
  .inr ((cN st.1 p.net).1,(cN st.2.1 (cG p.net p.bp).1).1,st.2.2++[{ p with tax:=(cG p.net p.bp).1 }])
def kQ (st:Int×Int×List Part):Total×Int:=
 if (cN st.1 st.2.1).2≠0 then (Total.zero,(cN st.1 st.2.1).2) else (⟨st.1,st.2.1,(cN st.1 st.2.1).1,st.2.2⟩,0)
def eT (l:List Part):Total×Int:=aS fR kQ l (0,0,[])
def iC (tab:List Rate) (d:Date) (parts:List Part) (l:Line):(Total×Int)⊕List Part:=
 if (fC tab d l).2.2≠0 then .inl (Total.zero,(fC tab d l).2.2) else
  if (qC parts l.cat (fC tab d l).1 (fC tab d l).2.1).2≠0 then .inl (Total.zero,(qC parts l.cat (fC tab d l).1 (fC tab d l).2.1).2) else
   .inr (qC parts l.cat (fC tab d l).1 (fC tab d l).2.1).1
def dL (tab:List Rate) (d:Date) (lines:List Line):Total×Int:=
 if fT tab=false then (Total.zero,1) else if d.right=false then (Total.zero,9) else if lines.length=0 then (Total.zero,1) else if 12<lines.length then (Total.zero,2) else
  aS (iC tab d) eT lines []
structure But (a:Nat) (S S':St):Prop where
 old:∀ y b,y≠a→S.heap.get y=some b→S'.heap.get y=some b
 next:S.next≤S'.next
 wf:WF S→WF S'
def oJ (n:Int):V:=.int .i64 n
def sD (done:List Int) (x:Int):(List Int×Int)⊕List Int:=if (jS 0 x).2≠0 then .inl ([],(jS 0 x).2) else .inr (done++[(jS 0 x).1])
def gQ (l:List Int):List Int×Int:=aS sD (fun l=>(l,0)) l []
def dX (acc:List Part) (p:Part):(List Part×Int)⊕List Part:=
 if (gQ [p.net,p.tax]).2≠0 then .inl ([],(gQ [p.net,p.tax]).2) else .inr (acc++[{ p with net:=(gQ [p.net,p.tax]).1.getD 0 0,tax:=(gQ [p.net,p.tax]).1.getD 1 0 }])
def bU (t:Total):Total×Int:=
 if (gQ [t.net,t.tax,t.gross]).2≠0 then (Total.zero,(gQ [t.net,t.tax,t.gross]).2) else
  if (aS dX (fun l=>(l,0)) t.parts []).2≠0 then (Total.zero,(aS dX (fun l=>(l,0)) t.parts []).2) else
   (⟨(gQ [t.net,t.tax,t.gross]).1.getD 0 0,(gQ [t.net,t.tax,t.gross]).1.getD 1 0,(gQ [t.net,t.tax,t.gross]).1.getD 2 0,(aS dX (fun l=>(l,0)) t.parts []).1⟩,0)
structure Ref where
 ser:List UInt8
 num:Int
deriving DecidableEq
def Ref.enc (r:Ref):List V:=[.str r.ser,.int .i64 r.num]
def Ref.zero:Ref:=⟨[],0⟩
structure Posted where
 ref:Ref
 day:Date
 total:Total
 of:Ref
 back:Bool
deriving DecidableEq
def Posted.cells (p:Posted) (pv:V):List V:=[.str p.ref.ser,.int .i64 p.ref.num,.int .i64 p.day.y,.int .i64 p.day.m,.int .i64 p.day.d,.int .i64 p.total.net,.int .i64 p.total.tax,.int .i64 p.total.gross,pv,.str p.of.ser,.int .i64 p.of.num,.bool p.back]
abbrev PV:=Posted×V
theorem aWw {α β:Type} (f:α→β) (p:β→Bool) (l:List α):ixM (fun a=>p (f a)) l=ixM p (l.map f):=by
 have:∀ (l:List α) (n:Nat),aS (eS fun a=>p (f a)) (fun _=>(-1:Int)) l n=aS (eS p) (fun _=>-1) (l.map f) n:=by
  intro l
  induction l with
  | nil=>intro n;rfl
  | cons a l ih=>
   intro n
   simp only [aS,List.map_cons,eS]
   by_cases h:p (f a)=true
   ·simp only [h,if_true]
   ·simp only [h,if_false]
    exact ih (n+1)
 exact this l 0
def cK (l:List Posted) (r:Ref):Int:=ixM (fun p:Posted=>decide (p.ref=r)) l
theorem lJ (l:List Posted) (r:Ref):cK l r=-1∨∃ (i:Nat) (s:Posted),cK l r=(i:Int)∧l[i]?=some s∧s.ref=r:=by
 rcases sA (fun p:Posted=>decide (p.ref=r)) l with h | ⟨i,s,h1,h2,h3⟩
 ·exact .inl h
 ·exact .inr ⟨i,s,h1,h2,by simpa using h3⟩
def pN {α:Type} [DecidableEq α] (r:List α) (n:Nat) (a:α):Bool⊕Nat:=if r[n]?=some a then .inr (n+1) else .inl false
theorem eqL {α:Type} [DecidableEq α] {l r:List α} (h:l.length=r.length):aS (pN r) (fun _=>true) l 0=decide (l=r):=by
 have:∀ (l t r:List α),l.length=(r.drop t.length).length→r.take t.length=t→aS (pN r) (fun _=>true) l t.length=decide (l=r.drop t.length):=by
  intro l
  induction l with
  | nil=>
   intro t r h1 h2
   have:r.drop t.length=[]:=List.length_eq_zero_iff.1 h1.symm
   rw [this];rfl
  | cons a l ih=>
   intro t r h1 h2
   have hlt:t.length<r.length:=by rw [List.length_drop] at h1;simp only [List.length_cons] at h1;omega
   rw [List.drop_eq_getElem_cons hlt]
   simp only [aS,pN,List.getElem?_eq_getElem hlt]
   by_cases c:r[t.length]=a
   ·have e1:(t++[a]).length=t.length+1:=by simp
    have:=ih (t++[a]) r (by rw [e1];rw [List.length_drop] at h1 ⊢;simp only [List.length_cons] at h1;omega) (by rw [e1,List.take_succ_eq_append_getElem hlt,h2,c])
    rw [e1] at this
    simp only [c,if_true]
    rw [this]
    by_cases d:l=r.drop (t.length+1)<;>simp [d]
   ·have c':¬ (some r[t.length]=some a):=fun e=>c (Option.some.inj e)
    simp only [c',if_false]
    rw [eq_comm,decide_eq_false_iff_not]
    intro e
    exact c (List.cons.inj e).1.symm
 have:=this l [] r (by simpa using h) rfl
 simpa using this
def blkOf:V→Option Nat
 | .sl a _ _ _ _=>some a
 | _=>none
def sU (t:Total):Bool:=
 if (gZ (t.parts.map (·.net))).2=true then (if (gZ (t.parts.map (·.tax))).2=true then (if (gZ [t.net,t.tax]).2=true then
  (if (gZ (t.parts.map (·.net))).1=t.net then (if (gZ (t.parts.map (·.tax))).1=t.tax then decide ((gZ [t.net,t.tax]).1=t.gross) else false) else false) else false) else false) else false
def aAg (st:List Int×List Int) (p:Part):(List Int×List Int)⊕(List Int×List Int):=.inr (st.1++[p.net],st.2++[p.tax])
theorem bEv:∀ (l:List Part) (a b:List Int),aS aAg id l (a,b)=(a++l.map (·.net),b++l.map (·.tax))
 | [],a,b=>by simp [aS]
 | p::l,a,b=>by simp only [aS,aAg];rw [bEv l];simp
def lT (prev:Option Part) (s:Part):Bool:=match prev with
 | none=>false
 | some p=>!fS p.cat s.cat
def wC (s:Part):Bool:=decide (s.bp<0)||decide (100000<s.bp)
def wH (s:Part):Bool:=!decide ((cG s.net s.bp).2=0)||!decide ((cG s.net s.bp).1=s.tax)
def fD (prev:Option Part) (s:Part):Bool⊕Option Part:=
 if eL s.cat=false then .inl false else if lT prev s=true then .inl false else if wC s=true then .inl false else if wH s=true then .inl false else .inr (some s)
def eF (t:Total):Bool:=if t.parts.length<1 then false else if 12<t.parts.length then false else aS fD (fun _=>sU t) t.parts none
def nM (p fr:Posted):Bool:=if fr.of=Ref.zero then (if p.day.before fr.day=false then (if (bU fr.total).2=0 then decide ((bU fr.total).1=p.total) else false) else false) else false
theorem aDg:∀ (l a:List Part) (r:List Part×Int),aS dX (fun l=>(l,0)) l a=r→r.1.length≤a.length+l.length
 | [],a,r,h=>by subst h;simp [aS]
 | x::l,a,r,h=>by
  simp only [aS] at h
  split at h
  ·rename_i r' he
   subst h
   unfold dX at he
   split at he
   ·cases he;simp
   ·cases he
  ·rename_i a' he
   unfold dX at he
   split at he
   ·cases he
   ·cases he
    have:=aDg l _ r h
    simp only [List.length_append,List.length_cons,List.length_nil] at this ⊢
    omega
theorem xR (t:Total):(bU t).1.parts.length≤t.parts.length:=by
 unfold bU
 split
 ·simp [Total.zero]
 ·split
  ·simp [Total.zero]
  ·have:=aDg t.parts [] _ rfl
   simpa using this
def cO (book:List Bal) (p:Posted):(List Bal×Int)⊕List Bal:=
 if (eH p.total).2≠0 then .inl ([],(eH p.total).2) else if (cY book (eH p.total).1).2≠0 then .inl ([],(cY book (eH p.total).1).2) else .inr (cY book (eH p.total).1).1
def dZ (l:List Posted):List Bal×Int:=aS cO (fun b=>(b,0)) l []
theorem uC (book l:List Bal):(cY book l).1.length≤book.length+l.length:=by
 unfold cY
 split
 ·simp
 ·exact aBm l book _ rfl
theorem wI (t:Total):(eH t).1.length≤1+2*t.parts.length∨(eH t).2≠0:=by
 by_cases h:(eH t).2=0
 ·exact .inl (by have:=aHq t.parts _ _ rfl h;simp only [List.length_cons,List.length_nil] at this;unfold eH;omega)
 ·exact .inr h
def zW:List V:=[.str [],.int .i64 0,.int .i64 0,.int .i64 0,.int .i64 0,.int .i64 0,.int .i64 0,.int .i64 0,.nils,.str [],.int .i64 0,.bool false]
def Fit (p:Posted):Prop:=p.total.parts.length≤12∧∀ q∈p.total.parts,q.cat.length≤1000000
def bump (l:List Int) (k:Nat):List Int:=l.set k (l.getD k 0+1)
def fO (st:List Posted×List Int) (p:Posted):Bool⊕(List Posted×List Int):=
 if p.day.right=false then .inl false else if eF p.total=false then .inl false else if p.of=Ref.zero then .inr (st.1++[p],st.2) else
  if cK st.1 p.of<0 then .inl false else if nM p (st.1.getD (cK st.1 p.of).toNat ⟨Ref.zero,⟨0,0,0⟩,Total.zero,Ref.zero,false⟩)=false then .inl false else
   .inr (st.1++[p],bump st.2 (cK st.1 p.of).toNat)
def gR (bs:List Int) (p:Posted):Bool⊕List Int:=if 1<bs.headD 0 then .inl false else if p.back=decide (bs.headD 0=1) then .inr bs.tail else .inl false
def iD (l:List Posted):Bool:=if 40<l.length then false else aS fO (fun st=>aS gR (fun _=>true) l st.2) l ([],List.replicate 40 0)
theorem kR {t:Total} (h:eF t=true):t.parts.length≤12:=by
 unfold eF at h
 split at h
 ·cases h
 ·split at h
  ·cases h
  ·omega
theorem wJ (l:List Int) (k:Nat) (h:k<l.length):l.getD k 0=l[k]:=by rw [List.getD_eq_getElem?_getD,List.getElem?_eq_getElem h];rfl
structure State where
 table:List Rate
 ser:List Ser
 posted:List Posted
 book:List Bal
 sess:List Sess
 next:Int
deriving DecidableEq
structure SV where
 t:V
 s:V
 p:V
 b:V
 e:V
 qs:List PV
def SV.cells (x:SV) (n:Int):List V:=[x.t,x.s,x.p,x.b,x.e,.int .i64 n]
def kH (ser:List Ser) (is:List Int) (p:Posted):Bool⊕List Int:=
 if hU ser p.ref.ser<0 then .inl false else if p.ref.num=(bump is (hU ser p.ref.ser).toNat).getD (hU ser p.ref.ser).toNat 0 then .inr (bump is (hU ser p.ref.ser).toNat) else .inl false
def jA (is:List Int) (s:Ser):Bool⊕List Int:=if s.next=is.headD 0+1 then .inr is.tail else .inl false
def mD (ser:List Ser) (l:List Posted):Bool:=aS (kH ser) (fun is=>aS jA (fun _=>true) ser is) l (List.replicate 8 0)
theorem wK (l:List Int) (k:Nat):(bump l k).length=l.length:=List.length_set ..
theorem aPu (l:List Int) (k:Nat) (h:k<l.length):(bump l k).getD k 0=l[k]+1:=by
 rw [List.getD_eq_getElem?_getD,bump,List.getElem?_set_self h,wJ l k h];rfl
def aBn (l:List Sess) (next:Int):Bool:=match l[l.length - 1]? with
 | none=>true
 | some s=>decide (s.id<next)
def jT (s:State):Bool:=if fZ s.sess=true then (if 1≤s.next then (if s.next≤1099511627776 then aBn s.sess s.next else false) else false) else false
theorem aBo {σ α:Type} {step:σ→α→Bool⊕σ} {fin:σ→Bool} (hs:∀ s a r,step s a=.inl r→r=false):∀ (l:List α) (s:σ),aS step fin l s=true→∀ a∈l,∃ s s',step s a=.inr s'
 | [],s,h,a,ha=>by cases ha
 | b::l,s,h,a,ha=>by
  simp only [aS] at h
  split at h
  ·rename_i r he
   have:=hs s b r he
   rw [this] at h;cases h
  ·rename_i s' he
   rcases List.mem_cons.1 ha with rfl | ha
   ·exact ⟨s,s',he⟩
   ·exact aBo hs l s' h a ha
theorem aDh {s:List UInt8} (h:eL s=true):s.length≤24:=by
 unfold eL at h
 split at h
 ·cases h
 ·split at h
  ·cases h
  ·omega
theorem aG5 {t:Total} (h:eF t=true):∀ q∈t.parts,eL q.cat=true:=by
 unfold eF at h
 split at h
 ·cases h
 ·split at h
  ·cases h
  ·intro q hq
   obtain ⟨s,s',he⟩:=aBo (fun s a r hr=>by
    unfold fD at hr
    repeat' split at hr
    all_goals cases hr
    all_goals rfl) t.parts none h q hq
   unfold fD at he
   split at he
   ·cases he
   ·rename_i hn;simpa using hn
theorem zC {p:Posted} (h:eF p.total=true):Fit p:=⟨kR h,fun q hq=>by have:=aDh (aG5 h q hq);omega⟩
theorem pO {l:List Posted} (h:iD l=true):l.length≤40∧∀ p∈l,p.day.right=true∧eF p.total=true:=by
 unfold iD at h
 split at h
 ·cases h
 ·refine ⟨by omega,fun p hp=>?_⟩
  obtain ⟨s,s',he⟩:=aBo (fun s a r hr=>by
   unfold fO at hr
   repeat' split at hr
   all_goals cases hr
   all_goals rfl) l _ h p hp
  unfold fO at he
  split at he
  ·cases he
  ·rename_i h1
   split at he
   ·cases he
   ·rename_i h2
    exact ⟨by simpa using h1,by simpa using h2⟩
def bZ (s:State):Bool:=if fT s.table=false then false else if mN s.ser=false then false else if jT s=false then false else if iD s.posted=false then false else
 if mD s.ser s.posted=false then false else if (dZ s.posted).2=0 then decide ((dZ s.posted).1=s.book) else false
theorem qY:∀ (l:List Posted) (a:List Bal) (r:List Bal×Int),(∀ p∈l,p.total.parts.length≤12)→aS cO (fun b=>(b,0)) l a=r→r.1.length≤a.length+25*l.length
 | [],a,r,_,h=>by subst h;simp [aS]
 | p::l,a,r,hp,h=>by
  simp only [aS] at h
  split at h
  ·rename_i r' he
   subst h
   unfold cO at he
   repeat' split at he
   all_goals cases he
   all_goals simp
  ·rename_i a' he
   unfold cO at he
   split at he
   ·cases he
   ·rename_i h1
    split at he
    ·cases he
    ·cases he
     have h2:=(wI p.total).resolve_right h1
     have h3:=uC a (eH p.total).1
     have h4:=hp p (List.mem_cons_self ..)
     have:=qY l _ r (fun q hq=>hp q (List.mem_cons_of_mem _ hq)) h
     simp only [List.length_cons]
     omega
def State.new:State:=⟨[],[],[],[],[],1⟩
def SV.new:SV:=⟨.nils,.nils,.nils,.nils,.nils,[]⟩
structure Bnd (s:State):Prop where
 bt:s.table.length≤100000
 bs:s.ser.length≤100000
 bp:s.posted.length≤100000
 bb:s.book.length≤100000
 be:s.sess.length≤100000
 bq:∀ p∈s.posted,p.total.parts.length≤100000
def aXq:List UInt8:=[111,119,101,100]
def wL (g:Int) (b:Bal):Int⊕Int:=.inr (if (b.acc == aXq)=true then b.amount else g)
def aHs (s:State) (name:List UInt8):Rep:=if (kC s.ser name).2=false then ⟨11,0,0⟩ else ⟨0,wr .i64 ((kC s.ser name).1.next - 1),aS wL id s.book 0⟩
def why (e:Int):Rep:=⟨e,0,0⟩
def bO (s:State) (name:List UInt8) (p:Posted):State×Rep:=
 if (dB s.ser name).2.2≠0 then (s,why (dB s.ser name).2.2) else if 40≤s.posted.length then (s,why 14) else
  if (eH p.total).2≠0 then (s,why (eH p.total).2) else if (cY s.book (eH p.total).1).2≠0 then (s,why (cY s.book (eH p.total).1).2) else
   ({ s with ser:=(dB s.ser name).1,book:=(cY s.book (eH p.total).1).1,posted:=s.posted++[{ p with ref:=⟨name,(dB s.ser name).2.1⟩ }] },⟨0,(dB s.ser name).2.1,p.total.gross⟩)
theorem aNd {P:List UInt8→Prop} {l:List Part} {cat:List UInt8} {bp n:Int} (h:∀ p∈l,P p.cat) (hc:P cat):∀ p∈(qC l cat bp n).1,P p.cat:=by
 have hroom:∀ p∈dQ l cat bp,P p.cat:=by
  unfold dQ
  split
  ·intro p hp
   rcases List.mem_append.1 hp with hp | hp
   ·exact h p (List.mem_of_mem_take hp)
   ·rcases List.mem_cons.1 hp with rfl | hp
    ·exact hc
    ·exact h p (List.mem_of_mem_drop hp)
  ·exact h
 unfold qC
 split
 ·intro p hp;cases hp
 ·rename_i q hq
  intro p hp
  rcases List.mem_or_eq_of_mem_set hp with hp | rfl
  ·exact hroom p hp
  ·exact hroom q (List.mem_of_getElem? hq)
theorem zD:∀ (l:List Part) (st:Int×Int×List Part) (r:Total×Int),aS fR kQ l st=r→r.2=0→r.1.parts.map (·.cat)=st.2.2.map (·.cat)++l.map (·.cat)
 | [],st,r,h,h0=>by
  subst h
  simp only [aS,kQ] at h0 ⊢
  split at h0
  ·rename_i hc;exact absurd h0 hc
  ·rename_i hc;rw [if_neg hc];simp
 | p::l,st,r,h,h0=>by
  simp only [aS] at h
  split at h
  ·rename_i r' he
   unfold fR at he
   split at he
   ·cases he;subst h;cases h0
   ·cases he
  ·rename_i st' he
   unfold fR at he
   split at he
   ·cases he
   ·cases he
    rw [zD l _ r h h0]
    simp
theorem aDi {tab:List Rate} {d:Date}:∀ (l:List Line) (parts:List Part) (r:Total×Int),(∀ p∈parts,eL p.cat=true)→aS (iC tab d) eT l parts=r→r.2=0→(∀ p∈r.1.parts,eL p.cat=true)∧r.1.parts.length≤parts.length+l.length
 | [],parts,r,hp,h,h0=>by
  subst h
  simp only [aS] at h0 ⊢
  have:=zD parts (0,0,[]) _ rfl h0
  simp only [List.map_nil,List.nil_append] at this
  refine ⟨fun p hpm=>?_,?_⟩
  ·have hm:p.cat∈parts.map (·.cat):=by rw [←this];exact List.mem_map_of_mem hpm
   obtain ⟨q,hq,e⟩:=List.mem_map.1 hm
   rw [←e];exact hp q hq
  ·have hl:=congrArg List.length this
   rw [List.length_map,List.length_map] at hl
   exact Nat.le_of_eq hl
 | x::l,parts,r,hp,h,h0=>by
  simp only [aS] at h
  split at h
  ·rename_i r' he
   unfold iC at he
   split at he
   ·rename_i hc;cases he;subst h;exact absurd h0 hc
   ·split at he
    ·rename_i hc;cases he;subst h;exact absurd h0 hc
    ·cases he
  ·rename_i s' he
   unfold iC at he
   split at he
   ·cases he
   ·rename_i hc
    split at he
    ·cases he
    ·cases he
     have hn:eL x.cat=true:=by
      have hc0:(fC tab d x).2.2=0:=by omega
      unfold fC at hc0
      split at hc0
      ·cases hc0
      ·split at hc0
       ·cases hc0
       ·rename_i hh;simpa using hh
     have h1:=aHr parts x.cat (fC tab d x).1 (fC tab d x).2.1
     obtain ⟨h2,h3⟩:=aDi l _ r (aNd (P:=fun c=>eL c=true) hp hn) h h0
     refine ⟨h2,?_⟩
     simp only [List.length_cons]
     omega
theorem uD {tab:List Rate} {d:Date} {l:List Line} (h:(dL tab d l).2=0):(dL tab d l).1.parts.length≤12∧∀ q∈(dL tab d l).1.parts,q.cat.length≤1000000:=by
 unfold dL at h ⊢
 split at h
 ·cases h
 ·rename_i c1
  rw [if_neg c1]
  split at h
  ·cases h
  ·rename_i c2
   rw [if_neg c2]
   split at h
   ·cases h
   ·rename_i c3
    rw [if_neg c3]
    split at h
    ·cases h
    ·rename_i c4
     rw [if_neg c4]
     obtain ⟨h1,h2⟩:=aDi l [] _ (fun _ h=>by cases h) rfl h
     refine ⟨by simp only [List.length_nil] at h2;omega,fun q hq=>by have:=aDh (h1 q hq);omega⟩
theorem aBp:∀ (l a:List Part) (r:List Part×Int),aS dX (fun l=>(l,0)) l a=r→r.2=0→r.1.map (·.cat)=a.map (·.cat)++l.map (·.cat)
 | [],a,r,h,h0=>by subst h;simp [aS]
 | x::l,a,r,h,h0=>by
  simp only [aS] at h
  split at h
  ·rename_i r' he
   subst h
   unfold dX at he
   split at he
   ·rename_i hc;cases he;exact absurd h0 hc
   ·cases he
  ·rename_i a' he
   unfold dX at he
   split at he
   ·cases he
   ·cases he
    rw [aBp l _ r h h0]
    simp
theorem aK0 (t:Total) (h:(bU t).2=0):(bU t).1.parts.map (·.cat)=t.parts.map (·.cat):=by
 unfold bU at h ⊢
 split at h
 ·rename_i c;exact absurd h c
 ·rename_i c
  rw [if_neg c]
  split at h
  ·rename_i c2;exact absurd h c2
  ·rename_i c2
   rw [if_neg c2]
   have:=aBp t.parts [] _ rfl (by omega)
   simpa using this
theorem aNe {p:Posted} (hf:Fit p) (h:(bU p.total).2=0):(bU p.total).1.parts.length≤12∧∀ q∈(bU p.total).1.parts,q.cat.length≤1000000:=by
 have:=aK0 p.total h
 refine ⟨by have:=xR p.total;have:=hf.1;omega,fun q hq=>?_⟩
 have hm:q.cat∈p.total.parts.map (·.cat):=by rw [←this];exact List.mem_map_of_mem hq
 obtain ⟨q',hq',e⟩:=List.mem_map.1 hm
 rw [←e];exact hf.2 q' hq'
structure Cmd where
 kind:Int
 series:List UInt8
 limit:Int
 row:Rate
 day:Date
 lines:List Line
 of:Ref
 session:Int
def Cmd.cells (c:Cmd) (lv:V):List V:=[.int .i64 c.kind,.str c.series,.int .i64 c.limit,.str c.row.cat,.int .i64 c.row.day.y,.int .i64 c.row.day.m,.int .i64 c.row.day.d,.int .i64 c.row.bp,.int .i64 c.day.y,.int .i64 c.day.m,.int .i64 c.day.d,lv,.str c.of.ser,.int .i64 c.of.num,.int .i64 c.session]
def mE (s:State) (c:Cmd):State×Rep:=
 if (dL s.table c.day c.lines).2≠0 then (s,why (dL s.table c.day c.lines).2) else bO s c.series ⟨Ref.zero,c.day,(dL s.table c.day c.lines).1,Ref.zero,false⟩
def Posted.zero:Posted:=⟨Ref.zero,⟨0,0,0⟩,Total.zero,Ref.zero,false⟩
def fI (l:List Posted) (k:Nat):List Posted:=match l[k]? with
 | none=>l
 | some p=>l.set k { p with back:=true }
def fP (s:State) (c:Cmd) (k:Nat) (p:Posted):State×Rep:=
 if p.back=true then (s,why 12) else if p.of=Ref.zero then
  (if c.day.right=false then (s,why 9) else if c.day.before p.day=true then (s,why 9) else if (bU p.total).2≠0 then (s,why (bU p.total).2) else
   if (bO s c.series ⟨Ref.zero,c.day,(bU p.total).1,c.of,false⟩).2.why=0 then
    ({ (bO s c.series ⟨Ref.zero,c.day,(bU p.total).1,c.of,false⟩).1 with posted:=fI (bO s c.series ⟨Ref.zero,c.day,(bU p.total).1,c.of,false⟩).1.posted k },(bO s c.series ⟨Ref.zero,c.day,(bU p.total).1,c.of,false⟩).2)
   else bO s c.series ⟨Ref.zero,c.day,(bU p.total).1,c.of,false⟩) else (s,why 12)
def eX (s:State) (c:Cmd):State×Rep:=
 if cK s.posted c.of<0 then (s,why 11) else fP s c (cK s.posted c.of).toNat (s.posted.getD (cK s.posted c.of).toNat Posted.zero)
theorem aG6 (s:State) (name:List UInt8) (p:Posted):∃ l,(bO s name p).1.posted=s.posted++l:=by
 unfold bO
 repeat' split
 all_goals first | exact ⟨[],(List.append_nil _).symm⟩ | exact ⟨_,rfl⟩
def gA (s:State) (r:List Ser×Int):State×Rep:=if r.2=0 then ({ s with ser:=r.1 },why r.2) else (s,why r.2)
def kI (s:State) (r:List Rate×Int):State×Rep:=if r.2=0 then ({ s with table:=r.1 },why r.2) else (s,why r.2)
def iB (s:State) (r:List Sess×Int):State×Rep:=if r.2=0 then ({ s with sess:=r.1 },why r.2) else (s,why r.2)
def sV (s:State) (c:Cmd):State×Rep:=
 if c.kind=1 then gA s (eW s.ser c.series c.limit) else if c.kind=2 then gA s (oI s.ser c.series) else if c.kind=3 then kI s (gP s.table c.row) else
  if c.kind=4 then mE s c else if c.kind=5 then eX s c else if c.kind=7 then iB s (fV s.sess c.session) else (s,aHs s c.series)
def gB (s:State):State×Rep:=
 if 8≤s.sess.length∨1099511627776≤s.next then (s,why 14) else if (mW s.sess s.next).2≠0 then (s,why (mW s.sess s.next).2) else
  ({ s with sess:=(mW s.sess s.next).1,next:=wr .i64 (s.next+1) },⟨0,s.next,0⟩)
structure Call where
 session:Int
 seq:Int
 cmd:Cmd
def Call.cells (c:Call) (lv:V):List V:=[.int .i64 c.session,.int .i64 c.seq]++c.cmd.cells lv
def gS (r:State×Rep) (c:Call):State×Rep:=if (jI r.1.sess c.session c.seq r.2).2=0 then ({ r.1 with sess:=(jI r.1.sess c.session c.seq r.2).1 },r.2) else r
def fJ (s:State) (c:Call):State×Rep:=
 if bZ s=false then (s,why 1) else if c.cmd.kind<1∨8<c.cmd.kind then (s,why 17) else if c.cmd.kind=6 then gB s else
  if (cJ s.sess c.session c.seq).2.2≠0 then (s,why (cJ s.sess c.session c.seq).2.2) else if (cJ s.sess c.session c.seq).2.1=true then (s,(cJ s.sess c.session c.seq).1) else gS (sV s c.cmd) c
theorem sW {s:State} (h:bZ s=true):iD s.posted=true:=by
 unfold bZ at h
 repeat' split at h
 all_goals first | cases h | skip
 rename_i h4 _ _
 simpa using h4
structure Sml (s:State):Prop where
 st:s.table.length≤1000
 ss:s.ser.length≤1000
 sp:s.posted.length≤1000
 sb:s.book.length≤10000
 se:s.sess.length≤1000
 sq:∀ p∈s.posted,p.total.parts.length≤1000
theorem Sml.bnd {s:State} (h:Sml s):Bnd s:=⟨by have:=h.st;omega,by have:=h.ss;omega,by have:=h.sp;omega,by have:=h.sb;omega,by have:=h.se;omega,fun p hp=>by have:=h.sq p hp;omega⟩
theorem Sml.new:Sml State.new:=⟨by decide,by decide,by decide,by decide,by decide,fun p hp=>by cases hp⟩
theorem mZ {s:State} (h:bZ s=true):s.table.length≤24∧s.ser.length≤8∧s.sess.length≤8∧s.posted.length≤40∧s.book.length≤1000∧(∀ p∈s.posted,p.total.parts.length≤12)∧s.book=(dZ s.posted).1:=by
 unfold bZ at h
 split at h
 ·cases h
 ·rename_i h1
  split at h
  ·cases h
  ·rename_i h2
   split at h
   ·cases h
   ·rename_i h3
    split at h
    ·cases h
    ·rename_i h4
     split at h
     ·cases h
     ·split at h
      ·have hb:=of_decide_eq_true h
       have h4':iD s.posted=true:=by simpa using h4
       obtain ⟨p1,p2⟩:=pO h4'
       have hparts:∀ p∈s.posted,p.total.parts.length≤12:=fun p hp=>kR (p2 p hp).2
       have hl:=qY s.posted [] (dZ s.posted) hparts rfl
       have hs:fZ s.sess=true:=by
        unfold jT at h3
        by_cases c:fZ s.sess=true
        ·exact c
        ·rw [if_neg c] at h3;exact absurd rfl h3
       refine ⟨uA (by simpa using h1),oH (by simpa using h2),lR hs,p1,?_,hparts,hb.symm⟩
       rw [←hb]
       simp only [List.length_nil] at hl
       omega
      ·cases h
theorem aBq {s:State} (h:Sml s) (h1:s.ser.length≤8) (h2:s.posted.length≤40) (h3:s.book.length≤1000) (name:List UInt8) (p:Posted) (hp:p.total.parts.length≤12):Sml (bO s name p).1:=by
 unfold bO
 split
 ·exact h
 ·split
  ·exact h
  ·split
   ·exact h
   ·rename_i c3
    split
    ·exact h
    ·refine ⟨h.st,?_,?_,?_,h.se,?_⟩
     ·show (dB s.ser name).1.length≤1000
      unfold dB
      repeat' split
      all_goals simp
      omega
     ·show (s.posted++_).length≤1000
      simp only [List.length_append,List.length_cons,List.length_nil];omega
     ·show (cY s.book (eH p.total).1).1.length≤10000
      have:=uC s.book (eH p.total).1
      have:=(wI p.total).resolve_right c3
      omega
     ·intro q hq
      rcases List.mem_append.1 hq with hq | hq
      ·exact h.sq q hq
      ·rw [List.mem_singleton.1 hq]
       show p.total.parts.length≤1000
       omega
theorem aHt (l:List Posted) (k:Nat) (h:∀ p∈l,p.total.parts.length≤1000):(fI l k).length=l.length∧∀ p∈fI l k,p.total.parts.length≤1000:=by
 unfold fI
 split
 ·exact ⟨rfl,h⟩
 ·rename_i p hp
  refine ⟨List.length_set ..,fun q hq=>?_⟩
  rcases List.mem_or_eq_of_mem_set hq with hq | rfl
  ·exact h q hq
  ·exact h p (List.mem_of_getElem? hp)
theorem oK {α:Type} (l:List α) (i:Nat) (a:α):(fB l i a).length≤l.length+1:=by
 simp only [fB,List.length_append,List.length_cons,List.length_take,List.length_drop];omega
theorem aWx {s:State} (h:Sml s) (hr:bZ s=true) (c:Cmd):Sml (sV s c).1:=by
 obtain ⟨r1,r2,r3,r4,r5,r6,_⟩:=mZ hr
 unfold sV
 split
 ·unfold gA
  split
  ·refine ⟨h.st,?_,h.sp,h.sb,h.se,h.sq⟩
   show (eW s.ser c.series c.limit).1.length≤1000
   unfold eW
   repeat' split
   all_goals first | (simp;done) | (refine Nat.le_trans (oK _ _ _) ?_;omega)
  ·exact h
 ·split
  ·unfold gA
   split
   ·refine ⟨h.st,?_,h.sp,h.sb,h.se,h.sq⟩
    show (oI s.ser c.series).1.length≤1000
    unfold oI
    repeat' split
    all_goals simp
    omega
   ·exact h
  ·split
   ·unfold kI
    split
    ·refine ⟨?_,h.ss,h.sp,h.sb,h.se,h.sq⟩
     show (gP s.table c.row).1.length≤1000
     unfold gP
     repeat' split
     all_goals first | (simp;done) | (refine Nat.le_trans (oK _ _ _) ?_;omega)
    ·exact h
   ·split
    ·unfold mE
     split
     ·exact h
     ·rename_i c1
      exact aBq h r2 r4 r5 _ _ (uD (by omega)).1
    ·split
     ·unfold eX
      split
      ·exact h
      ·rename_i c1
       unfold fP
       split
       ·exact h
       ·split
        ·split
         ·exact h
         ·split
          ·exact h
          ·split
           ·exact h
           ·rename_i c4
            have hpar:(s.posted.getD (cK s.posted c.of).toNat Posted.zero).total.parts.length≤12:=by
             rw [List.getD_eq_getElem?_getD]
             cases hg:s.posted[(cK s.posted c.of).toNat]? with
             | none=>exact Nat.zero_le _
             | some p=>exact r6 p (List.mem_of_getElem? hg)
            have hbl:=xR (s.posted.getD (cK s.posted c.of).toNat Posted.zero).total
            have hi:=aBq h r2 r4 r5 c.series ⟨Ref.zero,c.day,(bU (s.posted.getD (cK s.posted c.of).toNat Posted.zero).total).1,c.of,false⟩ (Nat.le_trans hbl hpar)
            split
            ·obtain ⟨e1,e2⟩:=aHt _ (cK s.posted c.of).toNat hi.sq
             exact ⟨hi.st,hi.ss,by rw [e1];exact hi.sp,hi.sb,hi.se,e2⟩
            ·exact hi
        ·exact h
     ·split
      ·unfold iB
       split
       ·refine ⟨h.st,h.ss,h.sp,h.sb,?_,h.sq⟩
        show (fV s.sess c.session).1.length≤1000
        unfold fV
        repeat' split
        all_goals first | (simp;done) | (simp only [tZ,List.length_append,List.length_take,List.length_drop];omega)
       ·exact h
      ·exact h
theorem aNf (l:List Sess) (id seq:Int) (r:Rep):(jI l id seq r).1.length≤l.length:=by
 unfold jI
 repeat' split
 all_goals simp
theorem aK1 {s:State} (h:Sml s) (c:Call):Sml (fJ s c).1:=by
 unfold fJ
 split
 ·exact h
 ·rename_i hr
  have hr:bZ s=true:=by simpa using hr
  split
  ·exact h
  ·split
   ·unfold gB
    split
    ·exact h
    ·split
     ·exact h
     ·obtain ⟨_,_,r3,_⟩:=mZ hr
      refine ⟨h.st,h.ss,h.sp,h.sb,?_,h.sq⟩
      show (mW s.sess s.next).1.length≤1000
      unfold mW
      repeat' split
      all_goals first | (simp;done) | (refine Nat.le_trans (oK _ _ _) ?_;omega)
   ·split
    ·exact h
    ·split
     ·exact h
     ·have hd:=aWx h hr c.cmd
      unfold gS
      split
      ·exact ⟨hd.st,hd.ss,hd.sp,hd.sb,by have:=aNf (sV s c.cmd).1.sess c.session c.seq (sV s c.cmd).2;have:=hd.se;show (jI _ _ _ _).1.length≤1000;omega,hd.sq⟩
      ·exact hd
def pP (c:Call):Call:={ c with cmd:={ c.cmd with lines:=c.cmd.lines.take 15 } }
def qZ (l:List Call) (n:Nat):List Call:=(l.take n).map pP
def bEw:List V:=[.int .i64 0,.int .i64 0,.int .i64 0,.str [],.int .i64 0,.str [],.int .i64 0,.int .i64 0,.int .i64 0,.int .i64 0,.int .i64 0,.int .i64 0,.int .i64 0,.nils,.str [],.int .i64 0,.int .i64 0]
def rA (st:State×List Rep) (c:Call):State×List Rep:=((fJ st.1 c).1,st.2++[(fJ st.1 c).2])
def playM (s:State) (l:List Call):State×List Rep:=l.foldl rA (s,[])
def aLf (st:State×List Rep) (c:Call):(State×List Rep)⊕(State×List Rep):=.inr (rA st c)
theorem aDj:∀ (l:List Call) (st:State×List Rep),aS aLf id l st=l.foldl rA st
 | [],st=>rfl
 | c::l,st=>by simp only [aS,aLf,List.foldl_cons];exact aDj l _
theorem aPv (l:List Call) (n:Nat):(qZ l n).length≤n:=by simp only [qZ,List.length_map,List.length_take];omega
end Go.Proofs.YtoaibmbldmckaaaGreat
end
section
namespace Go.AM
def rC {α:Type} (a:α):Option (List α)→Option (List α)
 | some l=>some (a::l)
 | none=>none
def wM:List V→Nat→Option (List V)
 | _,0=>some []
 | [],_+1=>none
 | a::l,n+1=>rC a (wM l n)
def rE:List V→Nat→List V→Option (List V)
 | cs,0,[]=>some cs
 | [],0,_::_=>none
 | _::cs,0,x::xs=>rC x (rE cs 0 xs)
 | [],_+1,_=>none
 | c::cs,j+1,xs=>rC c (rE cs j xs)
def oL:List V→Nat→Bool
 | [],0=>true
 | _::l,n+1=>oL l n
 | _,_=>false
def aG7 {α:Type}:List α→Nat→α→Option (List α)
 | [],_,_=>none
 | _::l,0,x=>some (x::l)
 | a::l,i+1,x=>rC a (aG7 l i x)
theorem aHu:∀ (l:List V) (n:Nat),wM l n=if n≤l.length then some (l.take n) else none
 | l,0=>by cases l<;>simp [wM]
 | [],n+1=>by simp [wM]
 | a::l,n+1=>by
  simp only [wM,aHu l n,List.length_cons,Nat.add_le_add_iff_right,List.take_succ_cons]
  split<;>rfl
theorem wN:∀ (cs:List V) (j:Nat) (xs:List V),rE cs j xs=if j+xs.length≤cs.length then some (splice cs j xs) else none
 | cs,0,[]=>by cases cs<;>simp [rE,splice]
 | [],0,x::xs=>by simp [rE]
 | c::cs,0,x::xs=>by
  have h:=wN cs 0 xs
  simp only [rE,h,List.length_cons,splice,List.take_zero,List.nil_append,Nat.zero_add]
  by_cases c1:xs.length≤cs.length
  ·rw [if_pos c1,if_pos (by omega)];simp [rC]
  ·rw [if_neg c1,if_neg (by omega)];rfl
 | [],j+1,xs=>by simp [rE]
 | c::cs,j+1,xs=>by
  have h:=wN cs j xs
  simp only [rE,h,List.length_cons,splice]
  by_cases c1:j+xs.length≤cs.length
  ·rw [if_pos c1,if_pos (by omega)]
   simp only [rC,List.take_succ_cons,List.cons_append,show j+1+xs.length=(j+xs.length)+1 by omega,List.drop_succ_cons]
  ·rw [if_neg c1,if_neg (by omega)];rfl
theorem wP:∀ (l:List V) (n:Nat),oL l n=decide (l.length=n)
 | [],0=>rfl
 | [],n+1=>by simp [oL]
 | a::l,0=>by simp [oL]
 | a::l,n+1=>by simp [oL,wP l n]
theorem aLg {α:Type}:∀ (l:List α) (i:Nat) (x:α),aG7 l i x=if i<l.length then some (l.set i x) else none
 | [],i,x=>by simp [aG7]
 | a::l,0,x=>by simp [aG7]
 | a::l,i+1,x=>by
  simp only [aG7,aLg l i x,List.length_cons,Nat.add_lt_add_iff_right,List.set_cons_succ]
  split<;>rfl
theorem pt2 (n:Nat) (cs:List V) (j:Nat):gK (some (n+1)) cs j=(match wM (cs.drop j) (n+1) with
  | some l=>.ok (.agg l)
  | none=>.error "part"):=by
 simp only [gK,aHu,List.length_drop]
 by_cases c:j+(n+1)≤cs.length
 ·rw [if_pos c,if_pos (by omega)]
 ·rw [if_neg c,if_neg (by omega)]
theorem mK (n a ver i j:Nat) (x:V) (S:St):aW n (.ptr a ver i j) x S=(match aI S a ver with
  | .error e=>.error e
  | .ok (es,elems)=>match elems[i]? with
   | some cs=>(match oL x.cells n&&aM x.cells with
    | true=>(match rE cs j x.cells with
     | some cs'=>.ok ⟨S.next,S.heap.put a (.row ver es (elems.set i cs'))⟩
     | none=>.error "store: the size")
    | false=>.error "store: the size")
   | none=>.error "store"):=by
 simp only [aW,wN,wP]
 cases aI S a ver with
 | error e=>rfl
 | ok r=>
  obtain ⟨es,elems⟩:=r
  simp only
  cases elems[i]? with
  | none=>rfl
  | some cs=>
   simp only
   by_cases c1:x.cells.length=n
   ·cases c2:aM x.cells
    ·simp [c1]
    ·by_cases c3:j+x.cells.length≤cs.length
     ·rw [if_pos ⟨c1,rfl,c3⟩];simp [c1];simp [←c1,c3]
     ·rw [if_neg (fun h=>c3 h.2.2)];simp [c1];simp [←c1,c3]
   ·rw [if_neg (fun h=>c1 h.1)];simp [c1]
theorem bw0 (z:List V) (pl:List (Nat×Nat)):bM z pl []=.ok (.agg z):=rfl
theorem bw1 (z:List V) (pl:List (Nat×Nat)) (i:Nat) (v:V) (rest:List (Nat×V)):bM z pl ((i,v)::rest)=(match pl[i]? with
  | none=>.error "fill"
  | some (off,size)=>(match oL v.cells size&&aM v.cells with
   | true=>(match rE z off v.cells with
    | some z'=>bM z' pl rest
    | none=>.error "fill")
   | false=>.error "fill")):=by
 simp only [bM,qF]
 cases pl[i]? with
 | none=>rfl
 | some p=>
  obtain ⟨off,size⟩:=p
  simp only [wN,wP,cond_eq_ite]
  by_cases c1:v.cells.length=size
  ·cases c2:aM v.cells
   ·simp [c1]
   ·by_cases c3:off+v.cells.length≤z.length
    ·have h1:Nat.beq v.cells.length size=true:=by simpa using c1
     have h2:Nat.ble (off+v.cells.length) z.length=true:=Nat.ble_eq_true_of_le c3
     simp [h1,h2,c1]
     simp [←c1,c3]
    ·have h2:Nat.ble (off+v.cells.length) z.length=false:=by
      cases h:Nat.ble (off+v.cells.length) z.length with
      | false=>rfl
      | true=>exact absurd (Nat.le_of_ble_eq_true h) c3
     simp [h2,c1]
     simp [←c1,c3]
  ·have h1:Nat.beq v.cells.length size=false:=by
    cases h:Nat.beq v.cells.length size with
    | false=>rfl
    | true=>exact absurd (Nat.eq_of_beq_eq_true h) c1
   simp [h1,c1]
theorem lv1 (es:Nat) (elems:List (List V)) (i:Nat) (v:V) (rest:List (Nat×V)):sI es elems ((i,v)::rest)=(match oL v.cells es&&aM v.cells with
  | true=>(match aG7 elems i v.cells with
   | some e=>sI es e rest
   | none=>.error "buildSlice")
  | false=>.error "buildSlice"):=by
 simp only [sI,aLg,wP,cond_eq_ite]
 by_cases c1:v.cells.length=es
 ·have h1:Nat.beq v.cells.length es=true:=by simpa using c1
  cases c2:aM v.cells
  ·simp [c1]
  ·by_cases c3:i<elems.length
   ·have h2:Nat.blt i elems.length=true:=by simpa using c3
    simp [h1,h2,c1,c3]
   ·have h2:Nat.blt i elems.length=false:=by
     cases h:Nat.blt i elems.length with
     | false=>rfl
     | true=>exact absurd (by simpa using h) c3
    simp [h2,c1,c3]
 ·have h1:Nat.beq v.cells.length es=false:=by
   cases h:Nat.beq v.cells.length es with
   | false=>rfl
   | true=>exact absurd (Nat.eq_of_beq_eq_true h) c1
  simp [h1,c1]
theorem aXr:(∀ {α:Type} (a:α) (l:List α),rC a (some l)=some (a::l))∧(∀ l:List V,wM l 0=some [])∧(∀ (a:V) (l:List V) (n:Nat),wM (a::l) (n+1)=rC a (wM l n)) ∧
  (∀ cs:List V,rE cs 0 []=some cs)∧(∀ (c x:V) (cs xs:List V),rE (c::cs) 0 (x::xs)=rC x (rE cs 0 xs))∧(∀ (c:V) (cs:List V) (j:Nat) (xs:List V),rE (c::cs) (j+1) xs=rC c (rE cs j xs)) ∧
  oL [] 0=true∧(∀ (a:V) (l:List V) (n:Nat),oL (a::l) (n+1)=oL l n)∧(∀ {α:Type} (a:α) (l:List α) (x:α),aG7 (a::l) 0 x=some (x::l))∧(∀ {α:Type} (a:α) (l:List α) (i:Nat) (x:α),aG7 (a::l) (i+1) x=rC a (aG7 l i x)) ∧
  type_of% pt2∧(∀ (n a j:Nat) (x:V) (S:St),type_of% (mK n a 0 0 j x S))∧type_of% bw0∧type_of% bw1∧type_of% lv1∧(∀ (es:Nat) (l:List (List V)),sI es l []=.ok l):=
 ⟨fun _ _=>rfl,fun l=>by cases l<;>rfl,fun _ _ _=>rfl,fun cs=>by cases cs<;>rfl,fun _ _ _ _=>rfl,fun _ _ _ _=>by simp only [rE],rfl,fun _ _ _=>rfl,fun _ _ _=>rfl,fun _ _ _ _=>rfl,pt2,fun n a j x S=>mK n a 0 0 j x S,bw0,bw1,lv1,fun _ _=>rfl⟩
section
section
variable {P:Program}
theorem aWy (b:Bool) (x y:Prop):aE (.bool b) x y=if b=true then x else y:=by cases b<;>rfl
theorem ldP (k:Option Nat) (a ver i j:Nat) (S:St):bB k (.ptr a ver i j) S=(match aI S a ver with
  | .error e=>.error e
  | .ok (_,elems)=>match elems[i]? with
   | some cs=>gK k cs j
   | none=>.error "load"):=rfl
theorem ptN (cs:List V) (j:Nat):gK none cs j=(match cs[j]? with
  | some v=>.ok v
  | none=>.error "part"):=rfl
theorem grS (n:Nat) (h:Tr Blk) (a ver es:Nat) (el:List (List V)):aI ⟨n,h.put a (.row ver es el)⟩ a ver=.ok (es,el):=aO ..
theorem iL {c a:Nat} (hc:c≠a) (n:Nat) (h:Tr Blk) (ver:Nat) (b:Blk):aI ⟨n,h.put a b⟩ c ver=aI ⟨n,h⟩ c ver:=cX n n h a c ver b hc
theorem nb0 (S:St) (b:Blk):aJ none S b=.ok (S.next,⟨S.next+1,S.heap.put S.next b⟩):=eB S b
theorem nb1 (k:Nat) (S:St) (b:Blk):aJ (some k) S b=.ok (k,⟨S.next,S.heap.put k b⟩):=lM k S b
theorem bAx:aM []=true:=rfl
theorem aWz (v:V) (l:List V):aM (v::l)=(v.one&&aM l):=rfl
theorem bO5 (b:Bool):(V.bool b).one=true:=rfl
theorem bO6 (k:IntKind) (n:Int):(V.int k n).one=true:=rfl
theorem bO7 (s:List UInt8):(V.str s).one=true:=rfl
theorem stP (n a ver i j:Nat) (x:V) (S:St):aW n (.ptr a ver i j) x S=(match aI S a ver with
  | .error e=>.error e
  | .ok (es,elems)=>match elems[i]? with
   | some cs=>if x.cells.length=n∧aM x.cells=true∧j+x.cells.length≤cs.length then .ok ⟨S.next,S.heap.put a (.row ver es (elems.set i (splice cs j x.cells)))⟩ else .error "store: the size"
   | none=>.error "store"):=rfl
theorem ixI {α:Type} {l:List α} {enc:α→List V} {i:Nat} {a:α} {n:Nat} (hi:l[i]?=some a) (hn:(enc a).length=n) (k:IntKind):cP n (.imm (l.map enc)) (.int k (i:Int))=.ok (.iptr (enc a) 0):=by
 have hil:=(List.getElem?_eq_some_iff.1 hi).1
 have hx:(l.map enc)[i]?=some (enc a):=by rw [List.getElem?_map,hi];rfl
 simp only [cP,List.length_map,iU hil,hx]
 simp only [hn,if_true]
theorem okI {α:Type} (a b:α):((Except.ok a:R α)=.ok b)=(a=b):=by simp
end
theorem kit:(∀ {α:Type} (a:α) (K:α→Prop),wR (.ok a) K=K a)∧(∀ {α:Type} (a:α) (K:α→Prop),wO (some a) K=K a)∧(∀ x:Prop,bS true x=x)∧(∀ (b:Bool) (x y:Prop),aE (.bool b) x y=if b=true then x else y) ∧
  (∀ (v:V) (r:List V) (K:V→List V→Prop),eC (v::r) K=K v r)∧(∀ (vs:List V) (i:Nat) (K:V→Prop),bI (.tup vs) i K=wO vs[i]? K)∧(∀ (a b c d:Nat) (x:Prop),gE (.ptr a b c d) x=x)∧(∀ (a:List V) (b:Nat) (x:Prop),gE (.iptr a b) x=x) ∧
  (∀ b:Bool,jE .not (.bool b)=.ok (.bool !b))∧(∀ v:V,dI v v=true):=
 ⟨fun _ _=>rfl,fun _ _=>rfl,fun _=>rfl,aWy,fun _ _ _=>rfl,fun _ _ _=>rfl,fun _ _ _ _ _=>rfl,fun _ _ _=>rfl,fun _=>rfl,xN⟩
theorem bEx (P:Program):(∀ (t:TypeId) (k:IntKind) (a b:Int),aH P .add t (.int k a) (.int k b)=.ok (.int k (wr k (a+b))))∧(∀ (t:TypeId) (k:IntKind) (a b:Int),aH P .sub t (.int k a) (.int k b)=.ok (.int k (wr k (a - b)))) ∧
  (∀ (t:TypeId) (k:IntKind) (a b:Int),aH P .mul t (.int k a) (.int k b)=.ok (.int k (wr k (a*b))))∧(∀ (t:TypeId) (k:IntKind) (a b:Int),aH P .lss t (.int k a) (.int k b)=.ok (.bool (decide (a<b)))) ∧
  (∀ (t:TypeId) (k:IntKind) (a b:Int),aH P .leq t (.int k a) (.int k b)=.ok (.bool (decide (a≤b))))∧(∀ (t:TypeId) (k:IntKind) (a b:Int),aH P .gtr t (.int k a) (.int k b)=.ok (.bool (decide (b<a)))) ∧
  (∀ (t:TypeId) (k:IntKind) (a b:Int),aH P .geq t (.int k a) (.int k b)=.ok (.bool (decide (b≤a))))∧(∀ (t:TypeId) (k:IntKind) (a b:Int),aH P .eql t (.int k a) (.int k b)=.ok (.bool (decide (a=b)))) ∧
  (∀ (t:TypeId) (k:IntKind) (a b:Int),aH P .neq t (.int k a) (.int k b)=.ok (.bool (!decide (a=b)))) ∧
  (∀ (t:TypeId) (j k:IntKind) (a b:Int),aL P t (.int j a) (.int k b)=true)∧(∀ (t:TypeId) (x y:List UInt8),aL P t (.str x) (.str y)=true)∧(∀ (t:TypeId) (x y:Bool),aL P t (.bool x) (.bool y)=true) ∧
  (∀ (t:TypeId) (x y:List UInt8),aH P .eql t (.str x) (.str y)=.ok (.bool (x == y)))∧(∀ (t:TypeId) (x y:List UInt8),aH P .neq t (.str x) (.str y)=.ok (.bool (!(x == y)))) ∧
  (∀ (t:TypeId) (x y:List UInt8),aH P .lss t (.str x) (.str y)=.ok (.bool (fS x y)))∧(∀ (t:TypeId) (x y:List UInt8),aH P .geq t (.str x) (.str y)=.ok (.bool (!fS x y))) ∧
  (∀ (t:TypeId) (k:IntKind) (a b:Int),b≠0→aH P .quo t (.int k a) (.int k b)=.ok (.int k (wr k (a.tdiv b))))∧(∀ (t:TypeId) (k:IntKind) (a b:Int),b≠0→aH P .rem t (.int k a) (.int k b)=.ok (.int k (a.tmod b))):=
 ⟨aRk P,aRl P,aRm P,aRo P,aRp P,aRq P,aRr P,aRs P,aRt P,fun _ _ _ _ _=>rfl,fun _ _ _=>rfl,fun _ _ _=>rfl,aRu P,aRv P,aRw P,aRx P,fun _ _ _ _ h=>aRn P _ _ _ _ h,fun _ _ _ _ h=>aL3 P _ _ _ _ h⟩
theorem bEy : (∀ (k : Option Nat) (a j : Nat) (S : St), bB k (.ptr a 0 0 j) S = (match aI S a 0 with
      | .error e => .error e
      | .ok (_, elems) => match elems[0]? with
        | some cs => gK k cs j
        | none => .error "load")) ∧ (∀ (k : Option Nat) (cs : List V) (j : Nat) (S : St), bB k (.iptr cs j) S = gK k cs j) ∧
    (∀ (cs : List V) (j : Nat), gK none cs j = (match cs[j]? with
      | some v => .ok v
      | none => .error "part")) ∧
    (∀ off a ver i j : Nat, advW off (.ptr a ver i j) = .ok (.ptr a ver i (j + off))) ∧ (∀ (off : Nat) (cs : List V) (j : Nat), advW off (.iptr cs j) = .ok (.iptr cs (j + off))) ∧
    (∀ (n : Nat) (h : Tr Blk) (a ver es : Nat) (el : List (List V)), aI ⟨n, h.put a (.row ver es el)⟩ a ver = .ok (es, el)) ∧ (∀ (S : St) (b : Blk), aJ none S b = .ok (S.next, ⟨S.next + 1, S.heap.put S.next b⟩)) ∧
    (∀ (k : Nat) (S : St) (b : Blk), aJ (some k) S b = .ok (k, ⟨S.next, S.heap.put k b⟩)) ∧ (∀ cs : List V, (V.agg cs).cells = cs) ∧ (∀ b : Bool, (V.bool b).cells = [.bool b]) ∧ (∀ (k : IntKind) (n : Int), (V.int k n).cells = [.int k n]) ∧
    (∀ s : List UInt8, (V.str s).cells = [.str s]) ∧ (∀ es : List (List V), (V.imm es).cells = [.imm es]) ∧ V.nils.cells = [.nils] ∧ (∀ a b c d : Nat, (V.ptr a b c d).cells = [.ptr a b c d]) ∧ (∀ a b c d e : Nat, (V.sl a b c d e).cells = [.sl a b c d e]) ∧
    (∀ (f : FuncId) (a b : List V), (V.func f a b).cells = [.func f a b]) ∧ aM [] = true ∧ (∀ (v : V) (l : List V), aM (v :: l) = (v.one && aM l)) ∧ (∀ b : Bool, (V.bool b).one = true) ∧ (∀ (k : IntKind) (n : Int), (V.int k n).one = true) ∧ (∀ s : List UInt8, (V.str s).one = true) ∧
    (∀ es : List (List V), (V.imm es).one = true) ∧ V.nils.one = true ∧ (∀ a b c d : Nat, (V.ptr a b c d).one = true) ∧ (∀ a b c d e : Nat, (V.sl a b c d e).one = true) ∧ (∀ (f : FuncId) (a b : List V), (V.func f a b).one = true) ∧
    (∀ es : List (List V), lenW (.imm es) = .ok (.int .i64 es.length)) ∧ lenW .nils = .ok (.int .i64 0) ∧ (∀ a b c d e : Nat, lenW (.sl a b c d e) = .ok (.int .i64 e)) ∧
    (∀ (S : St) (b : Bool), bY S (.bool b) = .ok (.bool b)) ∧ (∀ (S : St) (k : IntKind) (n : Int), bY S (.int k n) = .ok (.int k n)) ∧ (∀ (S : St) (s : List UInt8), bY S (.str s) = .ok (.str s)) ∧ (∀ (S : St) (es : List (List V)), bY S (.imm es) = .ok (.imm es)) ∧
    (∀ {α : Type} (a b : α), ((Except.ok a : R α) = .ok b) = (a = b)) :=
  ⟨fun _ _ _ _ => rfl, fun _ _ _ _ => rfl, fun _ _ => rfl, fun _ _ _ _ _ => rfl, fun _ _ _ => rfl, grS, nb0, nb1, fun _ => rfl, fun _ => rfl, fun _ _ => rfl, fun _ => rfl, fun _ => rfl, rfl, fun _ _ _ _ => rfl, fun _ _ _ _ _ => rfl, fun _ _ _ => rfl, rfl, fun _ _ => rfl,
    fun _ => rfl, fun _ _ => rfl, fun _ => rfl, fun _ => rfl, rfl, fun _ _ _ _ => rfl, fun _ _ _ _ _ => rfl, fun _ _ _ => rfl, fun _ => rfl, rfl, fun _ _ _ _ _ => rfl, fun _ _ => rfl, fun _ _ _ => rfl, fun _ _ => rfl, fun _ _ => rfl, okI⟩
end
end Go.AM
end
section
namespace Go.Proofs.YtoaibmbldmckaaaGreat
open Go.AM Tryz
theorem fx : (∀ (s x : V) (fr : Option Nat) (S : St), aV prog 102 s x fr S = cQ 23 224 s x fr S) ∧ (∀ (s x : V) (fr : Option Nat) (S : St), aV prog 22 s x fr S = cQ 1 1 s x fr S) ∧ (∀ (s x : V) (fr : Option Nat) (S : St), aV prog 24 s x fr S = cQ 5 48 s x fr S) ∧ (∀ (s x : V) (fr : Option Nat) (S : St), aV prog 25 s x fr S = cQ 4 40 s x fr S) ∧ (∀ (s x : V) (fr : Option Nat) (S : St), aV prog 26 s x fr S = cQ 12 128 s x fr S) ∧ (∀ (s x : V) (fr : Option Nat) (S : St), aV prog 27 s x fr S = cQ 2 24 s x fr S) ∧ (∀ (s x : V) (fr : Option Nat) (S : St), aV prog 28 s x fr S = cQ 5 40 s x fr S) ∧ (∀ (s x : V) (fr : Option Nat) (S : St), aV prog 44 s x fr S = cQ 17 176 s x fr S) ∧ (∀ (s x : V) (fr : Option Nat) (S : St), aV prog 55 s x fr S = cQ 4 48 s x fr S) ∧ (∀ (s x : V) (fr : Option Nat) (S : St), aV prog 62 s x fr S = cQ 3 24 s x fr S) ∧ (∀ (s x : V) (fr : Option Nat) (S : St), aV prog 71 s x fr S = cQ 4 40 s x fr S) ∧ (∀ (s x : V) (fr : Option Nat) (S : St), aV prog 80 s x fr S = cQ 4 40 s x fr S) ∧ (∀ (s x : V) (fr : Option Nat) (S : St), aV prog 96 s x fr S = cQ 1 8 s x fr S) ∧ (∀ (s x : V) (fr : Option Nat) (S : St), aV prog 97 s x fr S = cQ 23 224 s x fr S) ∧ (∀ (parts : List (Nat × V)), aR prog 126 parts = bM [.str [],.int .i64 0,.int .i64 0,.bool false] [(0, 1), (1, 1), (2, 1), (3, 1)] parts) ∧ (∀ (parts : List (Nat × V)), aR prog 132 parts = bM [.int .i64 0,.int .i64 0,.int .i64 0,.int .i64 0,.int .i64 0] [(0, 1), (1, 1), (2, 3)] parts) ∧ (∀ (parts : List (Nat × V)), aR prog 142 parts = bM [.nils,.int .i64 0,.int .i64 0] [(0, 1), (1, 1), (2, 1)] parts) ∧ (∀ (parts : List (Nat × V)), aR prog 145 parts = bM [.str [],.int .i64 0,.int .i64 0,.int .i64 0] [(0, 1), (1, 1), (2, 1), (3, 1)] parts) ∧ (∀ (parts : List (Nat × V)), aR prog 160 parts = bM [.nils] [(0, 1)] parts) ∧ (∀ (parts : List (Nat × V)), aR prog 201 parts = bM [.str [],.str [],.int .i64 0,.int .i64 0] [(0, 1), (1, 1), (2, 1), (3, 1)] parts) ∧ (∀ (parts : List (Nat × V)), aR prog 207 parts = bM [.int .i64 0,.int .i64 0,.int .i64 0,.str [],.int .i64 0,.str [],.int .i64 0,.int .i64 0,.int .i64 0,.int .i64 0,.int .i64 0,.int .i64 0,.int .i64 0,.nils,.str [],.int .i64 0,.int .i64 0,.int .i64 0,.int .i64 0,.int .i64 0,.int .i64 0,.int .i64 0,.int .i64 0] [(0, 17), (17, 1), (18, 1), (19, 1), (20, 3)] parts) ∧ (∀ (parts : List (Nat × V)), aR prog 212 parts = bM [.nili] [(0, 1)] parts) ∧ (∀ (parts : List (Nat × V)), aR prog 225 parts = bM [.nils,.int .i64 0,.int .i64 0] [(0, 1), (1, 1), (2, 1)] parts) ∧ (∀ (parts : List (Nat × V)), aR prog 287 parts = bM [.nils,.bool false] [(0, 1), (1, 1)] parts) ∧ (∀ (parts : List (Nat × V)), aR prog 30 parts = bM [.nils,.nils,.nils,.nils,.nils,.int .i64 0] [(0, 1), (1, 1), (2, 1), (3, 1), (4, 1), (5, 1)] parts) ∧ (∀ (parts : List (Nat × V)), aR prog 346 parts = bM [.int .i64 0,.int .u64 0] [(0, 1), (1, 1)] parts) ∧ (∀ (parts : List (Nat × V)), aR prog 48 parts = bM [.int .i64 0,.int .i64 0,.int .i64 0] [(0, 1), (1, 1), (2, 1)] parts) ∧ (∀ (parts : List (Nat × V)), aR prog 52 parts = bM [.int .i64 0,.int .i64 0,.int .i64 0] [(0, 1), (1, 1), (2, 1)] parts) ∧ (∀ (parts : List (Nat × V)), aR prog 54 parts = bM [.str [],.int .i64 0,.int .i64 0,.int .i64 0,.int .i64 0] [(0, 1), (1, 3), (4, 1)] parts) ∧ (∀ (parts : List (Nat × V)), aR prog 57 parts = bM [.str [],.int .i64 0] [(0, 1), (1, 1)] parts) ∧ (∀ (parts : List (Nat × V)), aR prog 59 parts = bM [.int .i64 0,.str [],.int .i64 0,.str [],.int .i64 0,.int .i64 0,.int .i64 0,.int .i64 0,.int .i64 0,.int .i64 0,.int .i64 0,.nils,.str [],.int .i64 0,.int .i64 0] [(0, 1), (1, 1), (2, 1), (3, 5), (8, 3), (11, 1), (12, 2), (14, 1)] parts) ∧ (∀ (parts : List (Nat × V)), aR prog 61 parts = bM [.int .i64 0,.int .i64 0,.int .i64 0,.str [],.int .i64 0,.str [],.int .i64 0,.int .i64 0,.int .i64 0,.int .i64 0,.int .i64 0,.int .i64 0,.int .i64 0,.nils,.str [],.int .i64 0,.int .i64 0] [(0, 1), (1, 1), (2, 15)] parts) ∧ (∀ (parts : List (Nat × V)), aR prog 76 parts = bM [.str [],.int .i64 0,.int .i64 0,.int .i64 0] [(0, 1), (1, 1), (2, 1), (3, 1)] parts) ∧ (∀ (parts : List (Nat × V)), aR prog 77 parts = bM [.str [],.int .i64 0,.int .i64 0,.int .i64 0] [(0, 1), (1, 1), (2, 1), (3, 1)] parts) ∧ (∀ (parts : List (Nat × V)), aR prog 82 parts = bM [.int .i64 0,.int .i64 0,.int .i64 0,.nils] [(0, 1), (1, 1), (2, 1), (3, 1)] parts) ∧ (∀ (parts : List (Nat × V)), aR prog 84 parts = bM [.str [],.int .i64 0,.int .i64 0,.int .i64 0,.int .i64 0,.int .i64 0,.int .i64 0,.int .i64 0,.nils,.str [],.int .i64 0,.bool false] [(0, 2), (2, 3), (5, 4), (9, 2), (11, 1)] parts) ∧ (∀ (parts : List (Nat × V)), aR prog 90 parts = bM [.str [],.int .i64 0] [(0, 1), (1, 1)] parts) ∧ (∀ (parts : List (Nat × V)), aR prog 99 parts = bM [.int .i64 0,.int .i64 0,.int .i64 0,.str [],.int .i64 0,.str [],.int .i64 0,.int .i64 0,.int .i64 0,.int .i64 0,.int .i64 0,.int .i64 0,.int .i64 0,.nils,.str [],.int .i64 0,.int .i64 0,.int .i64 0,.int .i64 0,.int .i64 0,.int .i64 0,.int .i64 0,.int .i64 0] [(0, 17), (17, 1), (18, 1), (19, 1), (20, 3)] parts) ∧ (∀ (len : Nat) (parts : List (Nat × V)) (fr : Option Nat) (S : St), aK prog 102 len parts fr S = aP 23 [.int .i64 0,.int .i64 0,.int .i64 0,.str [],.int .i64 0,.str [],.int .i64 0,.int .i64 0,.int .i64 0,.int .i64 0,.int .i64 0,.int .i64 0,.int .i64 0,.nils,.str [],.int .i64 0,.int .i64 0,.int .i64 0,.int .i64 0,.int .i64 0,.int .i64 0,.int .i64 0,.int .i64 0] len parts fr S) ∧ (∀ (len : Nat) (parts : List (Nat × V)) (fr : Option Nat) (S : St), aK prog 22 len parts fr S = aP 1 [.int .u8 0] len parts fr S) ∧ (∀ (len : Nat) (parts : List (Nat × V)) (fr : Option Nat) (S : St), aK prog 24 len parts fr S = aP 5 [.str [],.int .i64 0,.int .i64 0,.int .i64 0,.int .i64 0] len parts fr S) ∧ (∀ (len : Nat) (parts : List (Nat × V)) (fr : Option Nat) (S : St), aK prog 25 len parts fr S = aP 4 [.str [],.int .i64 0,.int .i64 0,.bool false] len parts fr S) ∧ (∀ (len : Nat) (parts : List (Nat × V)) (fr : Option Nat) (S : St), aK prog 26 len parts fr S = aP 12 [.str [],.int .i64 0,.int .i64 0,.int .i64 0,.int .i64 0,.int .i64 0,.int .i64 0,.int .i64 0,.nils,.str [],.int .i64 0,.bool false] len parts fr S) ∧ (∀ (len : Nat) (parts : List (Nat × V)) (fr : Option Nat) (S : St), aK prog 27 len parts fr S = aP 2 [.str [],.int .i64 0] len parts fr S) ∧ (∀ (len : Nat) (parts : List (Nat × V)) (fr : Option Nat) (S : St), aK prog 28 len parts fr S = aP 5 [.int .i64 0,.int .i64 0,.int .i64 0,.int .i64 0,.int .i64 0] len parts fr S) ∧ (∀ (len : Nat) (parts : List (Nat × V)) (fr : Option Nat) (S : St), aK prog 361 len parts fr S = aP 1 [.nilp] len parts fr S) ∧ (∀ (len : Nat) (parts : List (Nat × V)) (fr : Option Nat) (S : St), aK prog 364 len parts fr S = aP 1 [.str []] len parts fr S) ∧ (∀ (len : Nat) (parts : List (Nat × V)) (fr : Option Nat) (S : St), aK prog 44 len parts fr S = aP 17 [.int .i64 0,.int .i64 0,.int .i64 0,.str [],.int .i64 0,.str [],.int .i64 0,.int .i64 0,.int .i64 0,.int .i64 0,.int .i64 0,.int .i64 0,.int .i64 0,.nils,.str [],.int .i64 0,.int .i64 0] len parts fr S) ∧ (∀ (len : Nat) (parts : List (Nat × V)) (fr : Option Nat) (S : St), aK prog 55 len parts fr S = aP 4 [.str [],.str [],.int .i64 0,.int .i64 0] len parts fr S) ∧ (∀ (len : Nat) (parts : List (Nat × V)) (fr : Option Nat) (S : St), aK prog 62 len parts fr S = aP 3 [.int .i64 0,.int .i64 0,.int .i64 0] len parts fr S) ∧ (∀ (len : Nat) (parts : List (Nat × V)) (fr : Option Nat) (S : St), aK prog 68 len parts fr S = aP 4 [.str [],.int .i64 0,.int .i64 0,.int .i64 0] len parts fr S) ∧ (∀ (len : Nat) (parts : List (Nat × V)) (fr : Option Nat) (S : St), aK prog 71 len parts fr S = aP 4 [.str [],.int .i64 0,.int .i64 0,.int .i64 0] len parts fr S) ∧ (∀ (len : Nat) (parts : List (Nat × V)) (fr : Option Nat) (S : St), aK prog 80 len parts fr S = aP 4 [.str [],.int .i64 0,.int .i64 0,.int .i64 0] len parts fr S) ∧ (∀ (len : Nat) (parts : List (Nat × V)) (fr : Option Nat) (S : St), aK prog 96 len parts fr S = aP 1 [.int .i64 0] len parts fr S) ∧ (∀ (len : Nat) (parts : List (Nat × V)) (fr : Option Nat) (S : St), aK prog 97 len parts fr S = aP 23 [.int .i64 0,.int .i64 0,.int .i64 0,.str [],.int .i64 0,.str [],.int .i64 0,.int .i64 0,.int .i64 0,.int .i64 0,.int .i64 0,.int .i64 0,.int .i64 0,.nils,.str [],.int .i64 0,.int .i64 0,.int .i64 0,.int .i64 0,.int .i64 0,.int .i64 0,.int .i64 0,.int .i64 0] len parts fr S) ∧ (∀ (j : IntKind) (n : Int) (fr : Option Nat) (S : St), bH prog 229 3 (.int j n) fr S = .ok (.int .i64 (wr .i64 n), S)) ∧ (∀ (j : IntKind) (n : Int) (fr : Option Nat) (S : St), bH prog 229 5 (.int j n) fr S = .ok (.int .u8 (wr .u8 n), S)) ∧ (∀ (j : IntKind) (n : Int) (fr : Option Nat) (S : St), bH prog 3 229 (.int j n) fr S = .ok (.int .u64 (wr .u64 n), S)) ∧ (∀ (j : IntKind) (n : Int) (fr : Option Nat) (S : St), bH prog 3 231 (.int j n) fr S = .ok (.int .u64 (wr .u64 n), S)) ∧ (∀ (j : IntKind) (n : Int) (fr : Option Nat) (S : St), bH prog 5 229 (.int j n) fr S = .ok (.int .u64 (wr .u64 n), S)) ∧ (∀ (p : V), aA prog 126 p 0 = advW 0 p) ∧ (∀ (p : V), aA prog 126 p 1 = advW 1 p) ∧ (∀ (p : V), aA prog 126 p 2 = advW 2 p) ∧ (∀ (p : V), aA prog 126 p 3 = advW 3 p) ∧ (∀ (p : V), aA prog 132 p 0 = advW 0 p) ∧ (∀ (p : V), aA prog 132 p 1 = advW 1 p) ∧ (∀ (p : V), aA prog 132 p 2 = advW 2 p) ∧ (∀ (p : V), aA prog 142 p 0 = advW 0 p) ∧ (∀ (p : V), aA prog 142 p 1 = advW 1 p) ∧ (∀ (p : V), aA prog 142 p 2 = advW 2 p) ∧ (∀ (p : V), aA prog 145 p 0 = advW 0 p) ∧ (∀ (p : V), aA prog 145 p 1 = advW 1 p) ∧ (∀ (p : V), aA prog 145 p 2 = advW 2 p) ∧ (∀ (p : V), aA prog 145 p 3 = advW 3 p) ∧ (∀ (p : V), aA prog 160 p 0 = advW 0 p) ∧ (∀ (p : V), aA prog 201 p 0 = advW 0 p) ∧ (∀ (p : V), aA prog 201 p 1 = advW 1 p) ∧ (∀ (p : V), aA prog 201 p 2 = advW 2 p) ∧ (∀ (p : V), aA prog 201 p 3 = advW 3 p) ∧ (∀ (p : V), aA prog 207 p 0 = advW 0 p) ∧ (∀ (p : V), aA prog 207 p 1 = advW 17 p) ∧ (∀ (p : V), aA prog 207 p 2 = advW 18 p) ∧ (∀ (p : V), aA prog 207 p 3 = advW 19 p) ∧ (∀ (p : V), aA prog 207 p 4 = advW 20 p) ∧ (∀ (p : V), aA prog 220 p 1 = advW 1 p) ∧ (∀ (p : V), aA prog 220 p 2 = advW 2 p) ∧ (∀ (p : V), aA prog 225 p 0 = advW 0 p) ∧ (∀ (p : V), aA prog 225 p 1 = advW 1 p) ∧ (∀ (p : V), aA prog 225 p 2 = advW 2 p) ∧ (∀ (p : V), aA prog 287 p 0 = advW 0 p) ∧ (∀ (p : V), aA prog 287 p 1 = advW 1 p) ∧ (∀ (p : V), aA prog 30 p 0 = advW 0 p) ∧ (∀ (p : V), aA prog 30 p 1 = advW 1 p) ∧ (∀ (p : V), aA prog 30 p 2 = advW 2 p) ∧ (∀ (p : V), aA prog 30 p 3 = advW 3 p) ∧ (∀ (p : V), aA prog 30 p 4 = advW 4 p) ∧ (∀ (p : V), aA prog 30 p 5 = advW 5 p) ∧ (∀ (p : V), aA prog 346 p 0 = advW 0 p) ∧ (∀ (p : V), aA prog 346 p 1 = advW 1 p) ∧ (∀ (p : V), aA prog 48 p 0 = advW 0 p) ∧ (∀ (p : V), aA prog 48 p 1 = advW 1 p) ∧ (∀ (p : V), aA prog 48 p 2 = advW 2 p) ∧ (∀ (p : V), aA prog 52 p 0 = advW 0 p) ∧ (∀ (p : V), aA prog 52 p 1 = advW 1 p) ∧ (∀ (p : V), aA prog 52 p 2 = advW 2 p) ∧ (∀ (p : V), aA prog 54 p 0 = advW 0 p) ∧ (∀ (p : V), aA prog 54 p 1 = advW 1 p) ∧ (∀ (p : V), aA prog 54 p 2 = advW 4 p) ∧ (∀ (p : V), aA prog 57 p 0 = advW 0 p) ∧ (∀ (p : V), aA prog 57 p 1 = advW 1 p) ∧ (∀ (p : V), aA prog 59 p 0 = advW 0 p) ∧ (∀ (p : V), aA prog 59 p 1 = advW 1 p) ∧ (∀ (p : V), aA prog 59 p 2 = advW 2 p) ∧ (∀ (p : V), aA prog 59 p 3 = advW 3 p) ∧ (∀ (p : V), aA prog 59 p 4 = advW 8 p) ∧ (∀ (p : V), aA prog 59 p 5 = advW 11 p) ∧ (∀ (p : V), aA prog 59 p 6 = advW 12 p) ∧ (∀ (p : V), aA prog 59 p 7 = advW 14 p) ∧ (∀ (p : V), aA prog 61 p 0 = advW 0 p) ∧ (∀ (p : V), aA prog 61 p 1 = advW 1 p) ∧ (∀ (p : V), aA prog 61 p 2 = advW 2 p) ∧ (∀ (p : V), aA prog 76 p 0 = advW 0 p) ∧ (∀ (p : V), aA prog 76 p 1 = advW 1 p) ∧ (∀ (p : V), aA prog 76 p 2 = advW 2 p) ∧ (∀ (p : V), aA prog 76 p 3 = advW 3 p) ∧ (∀ (p : V), aA prog 77 p 0 = advW 0 p) ∧ (∀ (p : V), aA prog 77 p 1 = advW 1 p) ∧ (∀ (p : V), aA prog 77 p 2 = advW 2 p) ∧ (∀ (p : V), aA prog 77 p 3 = advW 3 p) ∧ (∀ (p : V), aA prog 82 p 0 = advW 0 p) ∧ (∀ (p : V), aA prog 82 p 1 = advW 1 p) ∧ (∀ (p : V), aA prog 82 p 2 = advW 2 p) ∧ (∀ (p : V), aA prog 82 p 3 = advW 3 p) ∧ (∀ (p : V), aA prog 84 p 0 = advW 0 p) ∧ (∀ (p : V), aA prog 84 p 1 = advW 2 p) ∧ (∀ (p : V), aA prog 84 p 2 = advW 5 p) ∧ (∀ (p : V), aA prog 84 p 3 = advW 9 p) ∧ (∀ (p : V), aA prog 84 p 4 = advW 11 p) ∧ (∀ (p : V), aA prog 90 p 0 = advW 0 p) ∧ (∀ (p : V), aA prog 90 p 1 = advW 1 p) ∧ (∀ (p : V), aA prog 99 p 0 = advW 0 p) ∧ (∀ (p : V), aA prog 99 p 1 = advW 17 p) ∧ (∀ (p : V), aA prog 99 p 2 = advW 18 p) ∧ (∀ (p : V), aA prog 99 p 3 = advW 19 p) ∧ (∀ (p : V), aA prog 99 p 4 = advW 20 p) ∧ (∀ (x i : V), aD prog 102 x i = cP 23 x i) ∧ (∀ (x i : V), aD prog 114 x i = cP 3 x i) ∧ (∀ (x i : V), aD prog 22 x i = cP 1 x i) ∧ (∀ (x i : V), aD prog 24 x i = cP 5 x i) ∧ (∀ (x i : V), aD prog 25 x i = cP 4 x i) ∧ (∀ (x i : V), aD prog 26 x i = cP 12 x i) ∧ (∀ (x i : V), aD prog 27 x i = cP 2 x i) ∧ (∀ (x i : V), aD prog 28 x i = cP 5 x i) ∧ (∀ (x i : V), aD prog 361 x i = cP 1 x i) ∧ (∀ (x i : V), aD prog 364 x i = cP 1 x i) ∧ (∀ (x i : V), aD prog 44 x i = cP 17 x i) ∧ (∀ (x i : V), aD prog 55 x i = cP 4 x i) ∧ (∀ (x i : V), aD prog 62 x i = cP 3 x i) ∧ (∀ (x i : V), aD prog 68 x i = cP 4 x i) ∧ (∀ (x i : V), aD prog 71 x i = cP 4 x i) ∧ (∀ (x i : V), aD prog 80 x i = cP 4 x i) ∧ (∀ (x i : V), aD prog 96 x i = cP 1 x i) ∧ (∀ (x i : V), aD prog 97 x i = cP 23 x i) ∧ (∀ (p : V) (S : St), aB prog 126 p S = bB (some 4) p S) ∧ (∀ (p : V) (S : St), aB prog 132 p S = bB (some 5) p S) ∧ (∀ (p : V) (S : St), aB prog 145 p S = bB (some 4) p S) ∧ (∀ (p : V) (S : St), aB prog 2 p S = bB none p S) ∧ (∀ (p : V) (S : St), aB prog 201 p S = bB (some 4) p S) ∧ (∀ (p : V) (S : St), aB prog 212 p S = bB (some 1) p S) ∧ (∀ (p : V) (S : St), aB prog 22 p S = bB none p S) ∧ (∀ (p : V) (S : St), aB prog 220 p S = bB (some 3) p S) ∧ (∀ (p : V) (S : St), aB prog 229 p S = bB none p S) ∧ (∀ (p : V) (S : St), aB prog 232 p S = bB none p S) ∧ (∀ (p : V) (S : St), aB prog 24 p S = bB none p S) ∧ (∀ (p : V) (S : St), aB prog 25 p S = bB none p S) ∧ (∀ (p : V) (S : St), aB prog 26 p S = bB none p S) ∧ (∀ (p : V) (S : St), aB prog 27 p S = bB none p S) ∧ (∀ (p : V) (S : St), aB prog 28 p S = bB none p S) ∧ (∀ (p : V) (S : St), aB prog 3 p S = bB none p S) ∧ (∀ (p : V) (S : St), aB prog 30 p S = bB (some 6) p S) ∧ (∀ (p : V) (S : St), aB prog 31 p S = bB none p S) ∧ (∀ (p : V) (S : St), aB prog 346 p S = bB (some 2) p S) ∧ (∀ (p : V) (S : St), aB prog 349 p S = bB none p S) ∧ (∀ (p : V) (S : St), aB prog 4 p S = bB none p S) ∧ (∀ (p : V) (S : St), aB prog 48 p S = bB (some 3) p S) ∧ (∀ (p : V) (S : St), aB prog 5 p S = bB none p S) ∧ (∀ (p : V) (S : St), aB prog 52 p S = bB (some 3) p S) ∧ (∀ (p : V) (S : St), aB prog 54 p S = bB (some 5) p S) ∧ (∀ (p : V) (S : St), aB prog 55 p S = bB none p S) ∧ (∀ (p : V) (S : St), aB prog 57 p S = bB (some 2) p S) ∧ (∀ (p : V) (S : St), aB prog 59 p S = bB (some 15) p S) ∧ (∀ (p : V) (S : St), aB prog 61 p S = bB (some 17) p S) ∧ (∀ (p : V) (S : St), aB prog 76 p S = bB (some 4) p S) ∧ (∀ (p : V) (S : St), aB prog 80 p S = bB none p S) ∧ (∀ (p : V) (S : St), aB prog 82 p S = bB (some 4) p S) ∧ (∀ (p : V) (S : St), aB prog 84 p S = bB (some 12) p S) ∧ (∀ (p : V) (S : St), aB prog 9 p S = bB none p S) ∧ (∀ (p : V) (S : St), aB prog 90 p S = bB (some 2) p S) ∧ (∀ (p : V) (S : St), aB prog 99 p S = bB (some 23) p S) ∧ (∀ (x : V) (S : St), bG prog 102 x S = lenW x) ∧ (∀ (x : V) (S : St), bG prog 114 x S = lenW x) ∧ (∀ (x : V) (S : St), bG prog 22 x S = lenW x) ∧ (∀ (x : V) (S : St), bG prog 24 x S = lenW x) ∧ (∀ (x : V) (S : St), bG prog 25 x S = lenW x) ∧ (∀ (x : V) (S : St), bG prog 26 x S = lenW x) ∧ (∀ (x : V) (S : St), bG prog 27 x S = lenW x) ∧ (∀ (x : V) (S : St), bG prog 28 x S = lenW x) ∧ (∀ (x : V) (S : St), bG prog 361 x S = lenW x) ∧ (∀ (x : V) (S : St), bG prog 364 x S = lenW x) ∧ (∀ (x : V) (S : St), bG prog 44 x S = lenW x) ∧ (∀ (x : V) (S : St), bG prog 55 x S = lenW x) ∧ (∀ (x : V) (S : St), bG prog 62 x S = lenW x) ∧ (∀ (x : V) (S : St), bG prog 68 x S = lenW x) ∧ (∀ (x : V) (S : St), bG prog 71 x S = lenW x) ∧ (∀ (x : V) (S : St), bG prog 80 x S = lenW x) ∧ (∀ (s : List UInt8) (S : St), bG prog 9 (.str s) S = .ok (.int .i64 s.length)) ∧ (∀ (x : V) (S : St), bG prog 96 x S = lenW x) ∧ (∀ (x : V) (S : St), bG prog 97 x S = lenW x) ∧ (∀ (a ver off len : Nat) (lo hi : Option V), cC prog 22 (.sl a ver 1 off len) lo hi = (match cB len lo hi with
      | .ok (l, h) => .ok (.sl a ver 1 (off + l) (h - l))
      | .error e => .error e)) ∧ (∀ (a ver off len : Nat) (lo hi : Option V), cC prog 24 (.sl a ver 5 off len) lo hi = (match cB len lo hi with
      | .ok (l, h) => .ok (.sl a ver 5 (off + l) (h - l))
      | .error e => .error e)) ∧ (∀ (a ver off len : Nat) (lo hi : Option V), cC prog 25 (.sl a ver 4 off len) lo hi = (match cB len lo hi with
      | .ok (l, h) => .ok (.sl a ver 4 (off + l) (h - l))
      | .error e => .error e)) ∧ (∀ (a ver off len : Nat) (lo hi : Option V), cC prog 26 (.sl a ver 12 off len) lo hi = (match cB len lo hi with
      | .ok (l, h) => .ok (.sl a ver 12 (off + l) (h - l))
      | .error e => .error e)) ∧ (∀ (a ver off len : Nat) (lo hi : Option V), cC prog 27 (.sl a ver 2 off len) lo hi = (match cB len lo hi with
      | .ok (l, h) => .ok (.sl a ver 2 (off + l) (h - l))
      | .error e => .error e)) ∧ (∀ (a ver off len : Nat) (lo hi : Option V), cC prog 28 (.sl a ver 5 off len) lo hi = (match cB len lo hi with
      | .ok (l, h) => .ok (.sl a ver 5 (off + l) (h - l))
      | .error e => .error e)) ∧ (∀ (a ver off len : Nat) (lo hi : Option V), cC prog 55 (.sl a ver 4 off len) lo hi = (match cB len lo hi with
      | .ok (l, h) => .ok (.sl a ver 4 (off + l) (h - l))
      | .error e => .error e)) ∧ (∀ (a ver off len : Nat) (lo hi : Option V), cC prog 71 (.sl a ver 4 off len) lo hi = (match cB len lo hi with
      | .ok (l, h) => .ok (.sl a ver 4 (off + l) (h - l))
      | .error e => .error e)) ∧ (∀ (a ver off len : Nat) (lo hi : Option V), cC prog 80 (.sl a ver 4 off len) lo hi = (match cB len lo hi with
      | .ok (l, h) => .ok (.sl a ver 4 (off + l) (h - l))
      | .error e => .error e)) ∧ (∀ (a ver off len : Nat) (lo hi : Option V), cC prog 96 (.sl a ver 1 off len) lo hi = (match cB len lo hi with
      | .ok (l, h) => .ok (.sl a ver 1 (off + l) (h - l))
      | .error e => .error e)) ∧ (∀ (a ver off len : Nat) (lo hi : Option V), cC prog 97 (.sl a ver 23 off len) lo hi = (match cB len lo hi with
      | .ok (l, h) => .ok (.sl a ver 23 (off + l) (h - l))
      | .error e => .error e)) ∧ (∀ (p x : V) (S : St), aG prog 126 p x S = aW 4 p x S) ∧ (∀ (p x : V) (S : St), aG prog 132 p x S = aW 5 p x S) ∧ (∀ (p x : V) (S : St), aG prog 145 p x S = aW 4 p x S) ∧ (∀ (p x : V) (S : St), aG prog 201 p x S = aW 4 p x S) ∧ (∀ (p x : V) (S : St), aG prog 212 p x S = aW 1 p x S) ∧ (∀ (p x : V) (S : St), aG prog 22 p x S = aW 1 p x S) ∧ (∀ (p x : V) (S : St), aG prog 220 p x S = aW 3 p x S) ∧ (∀ (p x : V) (S : St), aG prog 232 p x S = aW 1 p x S) ∧ (∀ (p x : V) (S : St), aG prog 24 p x S = aW 1 p x S) ∧ (∀ (p x : V) (S : St), aG prog 25 p x S = aW 1 p x S) ∧ (∀ (p x : V) (S : St), aG prog 26 p x S = aW 1 p x S) ∧ (∀ (p x : V) (S : St), aG prog 27 p x S = aW 1 p x S) ∧ (∀ (p x : V) (S : St), aG prog 28 p x S = aW 1 p x S) ∧ (∀ (p x : V) (S : St), aG prog 3 p x S = aW 1 p x S) ∧ (∀ (p x : V) (S : St), aG prog 30 p x S = aW 6 p x S) ∧ (∀ (p x : V) (S : St), aG prog 31 p x S = aW 1 p x S) ∧ (∀ (p x : V) (S : St), aG prog 346 p x S = aW 2 p x S) ∧ (∀ (p x : V) (S : St), aG prog 4 p x S = aW 1 p x S) ∧ (∀ (p x : V) (S : St), aG prog 48 p x S = aW 3 p x S) ∧ (∀ (p x : V) (S : St), aG prog 5 p x S = aW 1 p x S) ∧ (∀ (p x : V) (S : St), aG prog 52 p x S = aW 3 p x S) ∧ (∀ (p x : V) (S : St), aG prog 54 p x S = aW 5 p x S) ∧ (∀ (p x : V) (S : St), aG prog 55 p x S = aW 1 p x S) ∧ (∀ (p x : V) (S : St), aG prog 57 p x S = aW 2 p x S) ∧ (∀ (p x : V) (S : St), aG prog 59 p x S = aW 15 p x S) ∧ (∀ (p x : V) (S : St), aG prog 61 p x S = aW 17 p x S) ∧ (∀ (p x : V) (S : St), aG prog 80 p x S = aW 1 p x S) ∧ (∀ (p x : V) (S : St), aG prog 82 p x S = aW 4 p x S) ∧ (∀ (p x : V) (S : St), aG prog 84 p x S = aW 12 p x S) ∧ (∀ (p x : V) (S : St), aG prog 9 p x S = aW 1 p x S) ∧ (∀ (p x : V) (S : St), aG prog 90 p x S = aW 2 p x S) ∧ (∀ (p x : V) (S : St), aG prog 99 p x S = aW 23 p x S) := ⟨aZ5, bC0, bC1, bC2, bC3, bC4, bC5, bC6, bC7, bC8, bC9, bCa, bCb, bCc, bCd, bCe, bCf, bCg, bCh, bCi, bCj, bCk, bCl, bCm, bHd, bCn, bHe, bHf, bHg, bHh, bHi, bHj, bHk, bHl, bHm, bHn, bHo, bHp, bCo, bHq, bHr, bHs, bHt, bHu, bHv, bCp, bCq, bHw, bHx, bHy, bHz, bI0, bI1, bI2, bI3, aVs, aVt, aVu, aVv, aVw, aVx, aVy, aVz, aW0, aW1, aW2, aW3, aW4, aW5, aW6, aW7, aW8, aW9, aWa, aWb, aWc, aWd, aWe, aWf, aWg, aWh, aWi, aWj, aWk, aWl, aWm, aWn, aWo, aWp, aWq, aWr, aZb, aZc, aZd, aZe, aZf, aZg, aWs, aWt, aZh, aZi, aZj, aZk, aZl, aZm, aZn, aZo, aZp, aZq, aZr, aZs, aZt, aZu, aZv, aZw, aZx, aZy, aZz, bA0, bA1, bA2, bA3, bA4, bA5, bA6, bA7, bA8, bA9, bAa, bAb, bAc, bAd, bAe, bAf, bAg, bAh, bAi, bAj, bAk, bAl, bAm, bAn, bAo, bAp, bAq, bD7, bD8, bIg, bIh, bIi, bIj, bIk, bIl, bD9, bDa, bIm, bIn, bIo, bIp, bIq, bIr, bIs, bIt, bDb, bDc, bDd, ld2, bDe, bDf, bIv, bDg, bDh, bDi, bIw, bIx, bIy, bIz, bJ0, ld3, bJ2, bJ3, bDj, bDk, ld4, bJ4, ld5, bJ5, bJ6, bJ7, bJ8, bJ9, bJa, bJb, bJc, bJd, bJe, ld9, bJf, bJg, bAr, bAs, bDl, bDm, bDn, bDo, bDp, bDq, bAt, bAu, bDr, bDs, bDt, bDu, bDv, bDw, bJh, bDx, bDy, bJi, bJj, bJk, bJl, bJm, bJn, bJo, bJp, bJq, bJr, bJs, bE0, bE1, bE2, bE3, bE4, bJt, bE5, bE6, bJu, bJv, bJw, bJx, bJy, st3, bJz, bK0, bE7, st4, bK1, st5, bK2, bK3, bK4, bK5, bK6, bK7, bK8, bK9, bKa, st9, bKb, bKc⟩
theorem ls:(∀ {α:Type} (a:α) (l:List α),(a::l)[0]?=some a)∧(∀ {α:Type} (a:α) (l:List α) (i:Nat),(a::l)[i+1]?=l[i]?)∧(∀ {α:Type} (i:Nat),([]:List α)[i]?=none)∧(∀ {α:Type} (a:α) (l:List α),(a::l).length=l.length+1)∧(∀ {α:Type},([]:List α).length=0) ∧
  (∀ {α:Type} (l:List α),l.drop 0=l)∧(∀ {α:Type} (a:α) (l:List α) (i:Nat),(a::l).drop (i+1)=l.drop i)∧(∀ {α:Type} (l:List α),l.take 0=[])∧(∀ {α:Type} (a:α) (l:List α) (i:Nat),(a::l).take (i+1)=a::l.take i)∧(∀ {α:Type} (i:Nat),([]:List α).take i=[])∧(∀ {α:Type} (i:Nat),([]:List α).drop i=[]) ∧
  (∀ {α:Type} (l:List α),[]++l=l)∧(∀ {α:Type} (a:α) (l m:List α),a::l++m=a::(l++m))∧(∀ {α:Type} (a b:α) (l:List α),(a::l).set 0 b=b::l)∧(∀ {α:Type} (a b:α) (l:List α) (i:Nat),(a::l).set (i+1) b=a::l.set i b) ∧
  (∀ b:Bool,(true&&b)=b)∧(∀ b:Bool,(b&&true)=b)∧(∀ b:Bool,(!!b)=b)∧(∀ {p q:Prop},(if true=true then p else q)=p)∧(∀ {p q:Prop},(if false=true then p else q)=q)∧(!true)=false∧(!false)=true∧(∀ {α:Type} (a b:α),(if True then a else b)=a)∧(∀ {α:Type} (a b:α),(if False then a else b)=b)∧(∀ n:Nat,0+n=n)∧(∀ n:Nat,n+0=n)∧(∀ {α:Type} (f:α→List V) (l:List α),(l.map f).length=l.length) ∧
  (∀ (p:Prop) [Decidable p],(decide p=true)=p)∧(∀ (p:Prop) [Decidable p],((!decide p)=true)=¬ p)∧(∀ p:Prop,(p∧True)=p)∧(∀ p:Prop,(True∧p)=p)∧(∀ n:Nat,(n≤n)=True)∧(∀ n:Nat,(0≤n)=True)∧(∀ (a:Nat),(a=a)=True):=
 ⟨fun _ _=>rfl,fun _ _ _=>rfl,fun _=>rfl,fun _ _=>rfl,rfl,fun _=>rfl,fun _ _ _=>rfl,fun _=>rfl,fun _ _ _=>rfl,fun _=>by simp,fun _=>by simp,fun _=>rfl,fun _ _ _=>rfl,fun _ _ _=>rfl,fun _ _ _ _=>rfl,Bool.true_and,Bool.and_true,Bool.not_not,by intros;rfl,by intros;rfl,rfl,rfl,fun _ _=>if_pos trivial,fun _ _=>if_neg id,Nat.zero_add,Nat.add_zero,fun _ _=>List.length_map ..,fun p _=>by simp,fun p _=>by simp,and_true,true_and,fun n=>by simp,fun n=>by simp,fun n=>by simp⟩
theorem gm (n:Nat) (S:St) (a v:Nat):aI ⟨n,S.heap⟩ a v=aI S a v:=rfl
theorem bEz {l:List Int} {i:Nat} {a:Int} (hi:l[i]?=some a) (k:IntKind):cP 1 (.imm (l.map gY)) (.int k (i:Int))=.ok (.iptr (gY a) 0):=ixI (enc:=gY) hi rfl k
theorem aG8 {l:List Rate} {i:Nat} {a:Rate} (hi:l[i]?=some a) (k:IntKind):cP 5 (.imm (l.map Rate.enc)) (.int k (i:Int))=.ok (.iptr a.enc 0):=ixI (enc:=Rate.enc) hi rfl k
theorem zF {l:List Ser} {i:Nat} {a:Ser} (hi:l[i]?=some a) (k:IntKind):cP 4 (.imm (l.map Ser.enc)) (.int k (i:Int))=.ok (.iptr a.enc 0):=ixI (enc:=Ser.enc) hi rfl k
theorem aBr {l:List Sess} {i:Nat} {a:Sess} (hi:l[i]?=some a) (k:IntKind):cP 5 (.imm (l.map Sess.enc)) (.int k (i:Int))=.ok (.iptr a.enc 0):=ixI (enc:=Sess.enc) hi rfl k
theorem aDk {l:List Bal} {i:Nat} {a:Bal} (hi:l[i]?=some a) (k:IntKind):cP 2 (.imm (l.map Bal.enc)) (.int k (i:Int))=.ok (.iptr a.enc 0):=ixI (enc:=Bal.enc) hi rfl k
theorem uE {l:List Part} {i:Nat} {a:Part} (hi:l[i]?=some a) (k:IntKind):cP 4 (.imm (l.map Part.enc)) (.int k (i:Int))=.ok (.iptr a.enc 0):=ixI (enc:=Part.enc) hi rfl k
theorem bAy {l:List Line} {i:Nat} {a:Line} (hi:l[i]?=some a) (k:IntKind):cP 4 (.imm (l.map Line.enc)) (.int k (i:Int))=.ok (.iptr a.enc 0):=ixI (enc:=Line.enc) hi rfl k
theorem dK {α:Type} {l:List α} {i:Nat} {a:α} (h:l[i]?=some a):((i:Int)<(l.length:Int))=True:=by
 have:=(List.getElem?_eq_some_iff.1 h).1
 simp;exact this
theorem mO {i:Nat} (h:i<1000000000):wr .i64 ((i:Int)+1)=((i+1:Nat):Int):=by rw [kX (by omega) (by omega)];omega
theorem wrm {i:Nat} (h:i+1<1000000000):wr .i64 (((i+1:Nat):Int) - 1)=(i:Int):=by rw [kX (by omega) (by omega)];omega
theorem gt0 (i:Nat):((0:Int)<((i+1:Nat):Int))=True:=by simp
theorem aPw {n i a:Nat} (h:(List.range n)[i]?=some a):i<n∧a=i:=by
 have hl:i<n:=by simpa using (List.getElem?_eq_some_iff.1 h).1
 rw [List.getElem?_range hl] at h
 exact ⟨hl,(Option.some.inj h).symm⟩
theorem oo : (∀ (S : St) (v : V), bY S v = dH lX (oS (kA S 3) S) v) ∧ (∀ (σ : V → Go.AM.R V) (l : List V), dH lX σ (.tup l) = (match frzVs lX σ l with
      | .ok cs => .ok (.tup cs)
      | .error e => .error e)) ∧ (∀ (σ : V → Go.AM.R V) (l : List V), dH lX σ (.agg l) = (match frzVs lX σ l with
      | .ok cs => .ok (.agg cs)
      | .error e => .error e)) ∧ (∀ σ : V → Go.AM.R V, frzVs lX σ [] = .ok []) ∧ (∀ (σ : V → Go.AM.R V) (v : V) (l : List V), frzVs lX σ (v :: l) = (match dH lX σ v with
      | .ok v => (match frzVs lX σ l with
        | .ok l => .ok (v :: l)
        | .error e => .error e)
      | .error e => .error e)) ∧ (∀ (σ : V → Go.AM.R V) (b : Bool), dH lX σ (.bool b) = .ok (.bool b)) ∧ (∀ (σ : V → Go.AM.R V) (k : IntKind) (n : Int), dH lX σ (.int k n) = .ok (.int k n)) ∧ (∀ (σ : V → Go.AM.R V) (s : List UInt8), dH lX σ (.str s) = .ok (.str s)) ∧
    (∀ (σ : V → Go.AM.R V) (es : List (List V)), dH lX σ (.imm es) = .ok (.imm es)) ∧ (∀ σ : V → Go.AM.R V, dH lX σ .nils = .ok (.imm [])) ∧ (∀ (σ : V → Go.AM.R V) (a b c d e : Nat), dH lX σ (.sl a b c d e) = σ (.sl a b c d e)) :=
  ⟨fun _ _ => rfl, fun σ l => by simp only [dH] <;> rfl, fun σ l => by simp only [dH] <;> rfl, fun _ => rfl, fun σ v l => by simp only [frzVs] <;> rfl, fun _ _ => rfl, fun _ _ _ => rfl, fun _ _ => rfl, fun _ _ => rfl, fun _ => rfl, fun _ _ _ _ _ _ => rfl⟩
theorem unK:(∀ (k:IntKind) (n:Int),jE .neg (.int k n)=.ok (.int k (wr k (0 - n))))∧(∀ n:Int,jE .xor (.int .u64 n)=.ok (.int .u64 (aN9 n))):=⟨fun _ _=>rfl,fun _=>rfl⟩
theorem nk:(∀ n:Nat,(0=n+1)=False)∧(∀ n:Nat,(n+1=0)=False)∧(∀ n m:Nat,(n+1=m+1)=(n=m))∧(∀ {α:Type} {a b:α},(a≠b)=¬ a=b)∧(¬ False)=True:=⟨fun n=>by simp,fun n=>by simp,fun n m=>by simp,by intros;rfl,by simp⟩
theorem ex:(∀ (a_0:List UInt8) (a_1:Int) (a_2:Int) (a_3:Bool) (b_0:List UInt8) (b_1:Int) (b_2:Int) (b_3:Bool),mJ prog 100 126 (.agg [.str a_0,.int .i64 a_1,.int .i64 a_2,.bool a_3]) (.agg [.str b_0,.int .i64 b_1,.int .i64 b_2,.bool b_3])=.ok ((a_0 == b_0)&&decide (a_1=b_1)&&decide (a_2=b_2)&&(a_3 == b_3)))∧(∀ (a_0:Int) (a_1:Int) (a_2_0:Int) (a_2_1:Int) (a_2_2:Int) (b_0:Int) (b_1:Int) (b_2_0:Int) (b_2_1:Int) (b_2_2:Int),mJ prog 100 132 (.agg [.int .i64 a_0,.int .i64 a_1,.int .i64 a_2_0,.int .i64 a_2_1,.int .i64 a_2_2]) (.agg [.int .i64 b_0,.int .i64 b_1,.int .i64 b_2_0,.int .i64 b_2_1,.int .i64 b_2_2])=.ok (decide (a_0=b_0)&&decide (a_1=b_1)&&decide (a_2_0=b_2_0)&&decide (a_2_1=b_2_1)&&decide (a_2_2=b_2_2)))∧(∀ (a_0:List UInt8) (a_1:Int) (a_2:Int) (a_3:Int) (b_0:List UInt8) (b_1:Int) (b_2:Int) (b_3:Int),mJ prog 100 145 (.agg [.str a_0,.int .i64 a_1,.int .i64 a_2,.int .i64 a_3]) (.agg [.str b_0,.int .i64 b_1,.int .i64 b_2,.int .i64 b_3])=.ok ((a_0 == b_0)&&decide (a_1=b_1)&&decide (a_2=b_2)&&decide (a_3=b_3)))∧(∀ (a_0:List UInt8) (a_1:List UInt8) (a_2:Int) (a_3:Int) (b_0:List UInt8) (b_1:List UInt8) (b_2:Int) (b_3:Int),mJ prog 100 201 (.agg [.str a_0,.str a_1,.int .i64 a_2,.int .i64 a_3]) (.agg [.str b_0,.str b_1,.int .i64 b_2,.int .i64 b_3])=.ok ((a_0 == b_0)&&(a_1 == b_1)&&decide (a_2=b_2)&&decide (a_3=b_3)))∧(∀ (a_0:Int) (a_1:Int) (b_0:Int) (b_1:Int),mJ prog 100 346 (.agg [.int .i64 a_0,.int .u64 a_1]) (.agg [.int .i64 b_0,.int .u64 b_1])=.ok (decide (a_0=b_0)&&decide (a_1=b_1)))∧(∀ (a_0:Int) (a_1:Int) (a_2:Int) (b_0:Int) (b_1:Int) (b_2:Int),mJ prog 100 48 (.agg [.int .i64 a_0,.int .i64 a_1,.int .i64 a_2]) (.agg [.int .i64 b_0,.int .i64 b_1,.int .i64 b_2])=.ok (decide (a_0=b_0)&&decide (a_1=b_1)&&decide (a_2=b_2)))∧(∀ (a_0:Int) (a_1:Int) (a_2:Int) (b_0:Int) (b_1:Int) (b_2:Int),mJ prog 100 52 (.agg [.int .i64 a_0,.int .i64 a_1,.int .i64 a_2]) (.agg [.int .i64 b_0,.int .i64 b_1,.int .i64 b_2])=.ok (decide (a_0=b_0)&&decide (a_1=b_1)&&decide (a_2=b_2)))∧(∀ (a_0:List UInt8) (a_1_0:Int) (a_1_1:Int) (a_1_2:Int) (a_2:Int) (b_0:List UInt8) (b_1_0:Int) (b_1_1:Int) (b_1_2:Int) (b_2:Int),mJ prog 100 54 (.agg [.str a_0,.int .i64 a_1_0,.int .i64 a_1_1,.int .i64 a_1_2,.int .i64 a_2]) (.agg [.str b_0,.int .i64 b_1_0,.int .i64 b_1_1,.int .i64 b_1_2,.int .i64 b_2])=.ok ((a_0 == b_0)&&decide (a_1_0=b_1_0)&&decide (a_1_1=b_1_1)&&decide (a_1_2=b_1_2)&&decide (a_2=b_2)))∧(∀ (a_0:List UInt8) (a_1:Int) (b_0:List UInt8) (b_1:Int),mJ prog 100 57 (.agg [.str a_0,.int .i64 a_1]) (.agg [.str b_0,.int .i64 b_1])=.ok ((a_0 == b_0)&&decide (a_1=b_1)))∧(∀ (a_0:List UInt8) (a_1:Int) (a_2:Int) (a_3:Int) (b_0:List UInt8) (b_1:Int) (b_2:Int) (b_3:Int),mJ prog 100 76 (.agg [.str a_0,.int .i64 a_1,.int .i64 a_2,.int .i64 a_3]) (.agg [.str b_0,.int .i64 b_1,.int .i64 b_2,.int .i64 b_3])=.ok ((a_0 == b_0)&&decide (a_1=b_1)&&decide (a_2=b_2)&&decide (a_3=b_3)))∧(∀ (a_0:List UInt8) (a_1:Int) (b_0:List UInt8) (b_1:Int),mJ prog 100 90 (.agg [.str a_0,.int .i64 a_1]) (.agg [.str b_0,.int .i64 b_1])=.ok ((a_0 == b_0)&&decide (a_1=b_1)))∧(∀ a b:List V,aL prog 126 (.agg a) (.agg b)=true)∧(∀ a b:List V,aL prog 132 (.agg a) (.agg b)=true)∧(∀ a b:List V,aL prog 145 (.agg a) (.agg b)=true)∧(∀ a b:List V,aL prog 201 (.agg a) (.agg b)=true)∧(∀ a b:List V,aL prog 346 (.agg a) (.agg b)=true)∧(∀ a b:List V,aL prog 48 (.agg a) (.agg b)=true)∧(∀ a b:List V,aL prog 52 (.agg a) (.agg b)=true)∧(∀ a b:List V,aL prog 54 (.agg a) (.agg b)=true)∧(∀ a b:List V,aL prog 57 (.agg a) (.agg b)=true)∧(∀ a b:List V,aL prog 76 (.agg a) (.agg b)=true)∧(∀ a b:List V,aL prog 90 (.agg a) (.agg b)=true):=⟨bCr,bCt,bCv,bCx,bCz,bI4,bI6,bI8,bIa,bIc,bIe,fun a b=>congrFun (congrFun bCs a) b,fun a b=>congrFun (congrFun bCu a) b,fun a b=>congrFun (congrFun bCw a) b,fun a b=>congrFun (congrFun bCy a) b,fun a b=>congrFun (congrFun bD0 a) b,fun a b=>congrFun (congrFun bI5 a) b,fun a b=>congrFun (congrFun bI7 a) b,fun a b=>congrFun (congrFun bI9 a) b,fun a b=>congrFun (congrFun bIb a) b,fun a b=>congrFun (congrFun bId a) b,fun a b=>congrFun (congrFun bIf a) b⟩
theorem agK (P : Program) : (∀ (t : TypeId) (a b : List V), aH P .eql t (.agg a) (.agg b) = (match mJ P 100 t (.agg a) (.agg b) with
      | .ok r => .ok (.bool r)
      | .error e => .error e)) ∧ (∀ (t : TypeId) (a b : List V), aH P .neq t (.agg a) (.agg b) = (match mJ P 100 t (.agg a) (.agg b) with
      | .ok r => .ok (.bool (!r))
      | .error e => .error e)) := ⟨fun _ _ _ => rfl, fun _ _ _ => rfl⟩
theorem kk:type_of% ex∧type_of% (agK prog)∧type_of% aXr∧type_of% nk∧type_of% kit∧type_of% (bEx prog)∧type_of% bEy∧type_of% fx∧type_of% ls:=⟨ex,agK prog,aXr,nk,kit,bEx prog,bEy,fx,ls⟩
theorem bO9 (y:Int) (S:St) (K:KW):C 204 [.int .i64 y] S K=K (.bool (aJx y)) S:=by
 refine (bMm rfl ?_).eq S K
 simp only [aU9,kk,ne_eq,Int.reduceEq,not_false_eq_true,aJx]
 grind
theorem bF1 (y m:Int) (S:St) (K:KW):C 132 [.int .i64 y,.int .i64 m] S K=K (.int .i64 (fN y m)) S:=by
 refine (bL5 rfl ?_).eq S K
 simp only [aSv,kk,bO9,fN]
 grind
theorem zX (d:Date) (S:St) (K:KW):C 123 [.agg [.int .i64 d.y,.int .i64 d.m,.int .i64 d.d]] S K=K (.bool d.right) S:=by
 refine (bKr rfl ?_).eq S K
 simp only [aSh,kk,bF1,Date.right]
 grind
theorem bOa (y:Int) (S:St) (K:KW):C 131 [.int .i64 y] S K=K (.int .i64 (ahead y)) S:=by
 refine (bL3 rfl ?_).eq S K
 simp only [aSt,kk,ne_eq,Int.reduceEq,not_false_eq_true,ahead]
theorem bOb (d:Date) (S:St) (K:KW):C 200 [.agg [.int .i64 d.y,.int .i64 d.m,.int .i64 d.d]] S K=K (.int .i64 d.days) S:=by
 refine (bMg rfl ?_).eq S K
 simp only [aU3,kk,zX,bOa,Date.days]
 by_cases hr:d.right=true
 ·simp only [hr,kk]
  have hm:1≤d.m∧d.m≤12:=by simp only [Date.right,Bool.and_eq_true,decide_eq_true_eq] at hr;omega
  refine aZ (List.range (d.m - 1).toNat) (step:=lQ d.y) (fin:=id) (fun i n vs S=>vs=[.int .i64 n,.int .i64 ((i:Int)+1)]∧aI S 0 0=.ok (3,[d.enc])) (fun r=>V.int .i64 (wr .i64 (wr .i64 (r+d.d) - 1))=.int .i64 (wr .i64 (wr .i64 (aS (lQ d.y) id (List.range (d.m - 1).toNat) (ahead d.y)+d.d) - 1))) ?_ ?_ ⟨rfl,by simp only [kk];rfl⟩ rfl
  ·rintro i a n vs S hi ⟨rfl,hg⟩ aQ H
   obtain ⟨hil,rfl⟩:=aPw hi
   simp only [lQ] at H
   simp only [aFl,kk,hg,Date.enc,bF1]
   rw [if_pos (by omega)]
   refine H _ _ ⟨?_,hg⟩
   rw [kX (n:=(a:Int)+1+1) (by omega) (by omega)]
   simp
  ·rintro n vs S ⟨rfl,hg⟩ aQ H
   simp only [aFl,kk,hg,Date.enc]
   rw [if_neg (by simp;omega)]
   exact H
 ·have hr:d.right=false:=by simpa using hr
  simp only [hr,kk]
  rfl
theorem aPx (a b:Date) (S:St) (K:KW):C 124 [.agg [.int .i64 a.y,.int .i64 a.m,.int .i64 a.d],.agg [.int .i64 b.y,.int .i64 b.m,.int .i64 b.d]] S K=K (.bool (a.before b)) S:=by
 refine (bKt rfl ?_).eq S K
 simp only [aSj,kk,iL,zX,bOb,Date.before]
 cases a.right<;>cases b.right<;>simp
theorem bOc (n:Int) (S:St) (K:KW):C 286 [.int .i64 n] S K=K (.int .u64 (oF n)) S:=by
 refine (bO1 rfl ?_).eq S K
 simp only [aVo,kk,unK,oF]
 split<;>rfl
theorem bOd (n:Int) (b:Bool) (S:St) (K:KW):C 287 [.int .u64 n,.bool b] S K=K (.tup [.int .i64 (aAf n b).1,.bool (aAf n b).2]) S:=by
 refine (bO3 rfl ?_).eq S K
 simp only [aVq,kk,unK,oo,aAf]
 cases b<;>simp
theorem aPy (a b:Int) (S:St) (K:KW):C 203 [.int .i64 a,.int .i64 b] S K=K (fY (cN a b)) S:=by
 refine (bMk rfl ?_).eq S K
 simp only [aU7,vT,kk,oo,cN,fY]
 grind
theorem bAz (a b:Int) (S:St) (K:KW):C 219 [.int .i64 a,.int .i64 b] S K=K (fY (jS a b)) S:=by
 refine (bMs rfl ?_).eq S K
 simp only [aUf,vU,kk,oo,jS,fY]
 grind
theorem bOe:(fun (a b:Bool)=>aH prog .neq 4 (.bool a) (.bool b))=fun a b=>.ok (.bool (!(a == b))):=by kernel_rfl
theorem bOf (a b:Bool):aH prog .neq 4 (.bool a) (.bool b)=.ok (.bool (!(a == b))):=congrFun (congrFun bOe a) b
theorem bOg (a b:Int) (S:St) (K:KW):C 279 [.int .i64 a,.int .i64 b] S K=K (fY (aJy a b)) S:=by
 refine (bNz rfl ?_).eq S K
 simp only [aVm,aG3,kk,bOc,bOd,bOf,oo,fY,aJy]
 by_cases h:0<oF b
 ·have h0:oF b≠0:=by omega
  simp only [h,h0,kk,ne_eq,not_false_eq_true]
  grind
 ·simp only [h,kk]
  grind
theorem bOh (n bp:Int) (S:St) (K:KW):C 254 [.int .i64 n,.int .i64 bp,.int .i64 10000] S K=K (fY (cG n bp)) S:=by
 refine (bNj rfl ?_).eq S K
 simp only [aV6,aFv,aFu,kk,unK,oo,fY,bAw,aBj,ne_eq,Int.reduceEq,not_false_eq_true]
 unfold cG
 simp only [oF]
 by_cases hn:n<0<;>simp only [hn,kk,if_true,if_false,aBj]
 all_goals
  by_cases hp:wr .u64 bp=0
  ·simp only [hp,kk,aBj]
   grind
  ·simp only [hp,kk,aBj,ne_eq,not_false_eq_true]
   grind
theorem bF2 (n bp:Int) (S:St) (K:KW):C 217 [.int .i64 n,.int .i64 bp] S K=K (fY (cG n bp)) S:=by
 refine (bMo rfl ?_).eq S K
 simp only [aUb,kk,bOh,fY,oo]
theorem bB0:(fun (a b c:Int)=>lF Tryz.f255 [.int .u64 a,.int .u64 b,.int .u64 c])=fun a b c=>
  bif decide (0≤a)&&decide (0≤b)&&decide (0≤c)&&decide (c≤1) then .ok (.tup [.int .u64 ((a+b+c) % 18446744073709551616),.int .u64 ((a+b+c) / 18446744073709551616)]) else .error "Add64":=by kernel_rfl
theorem aLh {a b c:Int} (ha:0≤a) (hb:0≤b) (hc:0≤c) (hc1:c≤1):lF Tryz.f255 [.int .u64 a,.int .u64 b,.int .u64 c]=.ok (.tup [.int .u64 ((a+b+c) % 18446744073709551616),.int .u64 ((a+b+c) / 18446744073709551616)]):=by
 refine (congrFun (congrFun (congrFun bB0 a) b) c).trans ?_
 simp only [ha,hb,hc,hc1,decide_true,Bool.and_self,cond_true]
theorem aNg (P:Program) (t:TypeId) (a:Int):aH P .shr t (.int .u64 a) (.int .u64 63)=.ok (.int .u64 (a.fdiv (2 ^ 63))):=rfl
theorem bOi (l:List Int) (hb:l.length<1000000) (S:St) (K:KW):C 218 [.imm (l.map gY)] S K=K (.tup [.int .i64 (gZ l).1,.bool (gZ l).2]) S:=by
 refine (bMq rfl ?_).eq S K
 simp only [aUd,kk]
 refine aZ l (step:=sC) (fin:=qX) (fun i st vs S=>vs=[.int .u64 st.1,.int .u64 st.2,.int .i64 (i:Int)]∧0≤st.1∧st.1<18446744073709551616∧0≤st.2∧st.2<18446744073709551616) (fun r=>V.tup [.int .i64 r.1,.bool r.2]=.tup [.int .i64 (gZ l).1,.bool (gZ l).2])
  ?_ ?_ (s:=(0,0)) ⟨rfl,by decide,by decide,by decide,by decide⟩ rfl
 ·rintro i n ⟨h,lo⟩ vs S hi ⟨rfl,r1,r2,r3,r4⟩ aQ H
  have hr:=aNc n
  have hil:=(List.getElem?_eq_some_iff.1 hi).1
  simp only at r1 r2 r3 r4
  have hc1:(lo+wr .u64 n+0) / 18446744073709551616≤1:=by omega
  have hc0:0≤(lo+wr .u64 n+0) / 18446744073709551616:=by omega
  have hI:=H [.int .u64 ((h+(if n<0 then 18446744073709551615 else 0)+(lo+wr .u64 n+0) / 18446744073709551616) % 18446744073709551616),.int .u64 ((lo+wr .u64 n+0) % 18446744073709551616),.int .i64 ((i+1:Nat):Int)] S ⟨rfl,by simp only;omega,by simp only;omega,by simp only;omega,by simp only;omega⟩
  simp only [aFn,aFm,kk,dK hi,bEz hi,gY,unK,bEu]
  by_cases hn:n<0
  ·simp only [hn,kk,if_true,aLh (c:=0) r3 hr.1 (by decide) (by decide),aLh r1 (show (0:Int)≤18446744073709551615 by decide) hc0 hc1,mO (show i<1000000000 by omega)] at hI ⊢
   exact hI
  ·simp only [hn,kk,if_false,aLh (c:=0) r3 hr.1 (by decide) (by decide),aLh r1 (show (0:Int)≤0 by decide) hc0 hc1,mO (show i<1000000000 by omega)] at hI ⊢
   exact hI
 ·rintro ⟨h,lo⟩ vs S ⟨rfl,r1,r2,r3,r4⟩ aQ H
  simp only [aFn,kk,Int.lt_irrefl,aNg,qX,oo] at H ⊢
  by_cases c:lo.fdiv (2 ^ 63)=0<;>simp only [c,kk,if_true,if_false] at H ⊢<;>exact H
theorem bOj (r:Int) (S:St) (K:KW):C 225 [.int .i32 r] S K=K (.bool (vW r)) S:=by
 refine (bMw rfl ?_).eq S K
 simp only [aUj,aAc,aFp,kk,vW]
 grind
theorem aX0 (s:List UInt8) (a pos:Nat) (S:St) (hg:S.heap.get a=some (.iter s pos)) (hl:pos<s.length):
  qQ (.ptr a 0 0 0) S=.ok (.tup [.bool true,.int .i64 pos,.int .i32 (Utf8.decode ⟨⟨s⟩⟩ pos).1],⟨S.next,S.heap.put a (.iter s (pos+(Utf8.decode ⟨⟨s⟩⟩ pos).2))⟩):=by
 have hb:Nat.blt pos s.length=true:=Nat.ble_eq_true_of_le hl
 have hs:s[pos]?=some s[pos]:=List.getElem?_eq_getElem hl
 simp only [qQ,hg,hb,hs]
 split
 ·rename_i h
  rw [Go.AM.decode_ascii hs (by simpa using h)]
 ·rfl
theorem aHv (s:List UInt8) (a pos:Nat) (S:St) (hg:S.heap.get a=some (.iter s pos)) (hl:s.length≤pos):qQ (.ptr a 0 0 0) S=.ok (.tup [.bool false],S):=by
 have hb:Nat.blt pos s.length=false:=by
  cases h:Nat.blt pos s.length with
  | false=>rfl
  | true=>exact absurd (Nat.le_of_ble_eq_true h) (by omega)
 simp only [qQ,hg,hb]
def IterAt (s:List UInt8) (i:Nat) (S:St):Prop:=∃ pos f,S.heap.get 0=some (.iter s pos)∧(mV s s.length 0).drop i=mV s f pos∧s.length≤f+pos
theorem IterAt.next {s:List UInt8} {i:Nat} {S:St} (h:IterAt s i S) {q r:Nat} (hi:(mV s s.length 0)[i]?=some (q,r)):∃ S',qQ (.ptr 0 0 0 0) S=.ok (.tup [.bool true,.int .i64 q,.int .i32 r],S')∧IterAt s (i+1) S':=by
 obtain ⟨pos,f,hg,hd,hf⟩:=h
 have hd0:=congrArg (·[0]?) hd
 simp only [List.getElem?_drop,Nat.add_zero,hi] at hd0
 cases f with
 | zero=>simp [mV] at hd0
 | succ f=>
  have hl:pos<s.length:=by
   by_cases hl:pos<s.length
   ·exact hl
   ·simp [mV,hl] at hd0
  have hd2:mV s (f+1) pos=(pos,(Utf8.decode ⟨⟨s⟩⟩ pos).1)::mV s f (pos+(Utf8.decode ⟨⟨s⟩⟩ pos).2):=by simp only [mV,hl,if_true]
  rw [hd2] at hd0 hd
  simp only [List.getElem?_cons_zero,Option.some.injEq,Prod.mk.injEq] at hd0
  obtain ⟨rfl,rfl⟩:=hd0
  have hw:=aHo ⟨⟨s⟩⟩ q
  exact ⟨_,aX0 s 0 q S hg hl,_,f,Tr.get_put_sameB _ _ _ trivial,by rw [←List.drop_drop,hd];rfl,by omega⟩
theorem IterAt.last {s:List UInt8} {S:St} (h:IterAt s (mV s s.length 0).length S):qQ (.ptr 0 0 0 0) S=.ok (.tup [.bool false],S):=by
 obtain ⟨pos,f,hg,hd,hf⟩:=h
 rw [List.drop_length] at hd
 cases f with
 | zero=>exact aHv s 0 pos S hg (by omega)
 | succ f=>
  by_cases hl:pos<s.length
  ·simp [mV,hl] at hd
  ·exact aHv s 0 pos S hg (by omega)
theorem aHw (s:List UInt8):xJ (.str s) none ⟨0,.nil⟩=.ok (.ptr 0 0 0 0,⟨1,Tr.nil.put 0 (.iter s 0)⟩)∧IterAt s 0 ⟨1,Tr.nil.put 0 (.iter s 0)⟩:=⟨rfl,0,s.length,Tr.get_put_sameB _ _ _ trivial,rfl,by omega⟩
theorem aPz (s:List UInt8) (S:St) (K:KW):C 165 [.str s] S K=K (.bool (eL s)) S:=by
 refine (bLh rfl ?_).eq S K
 simp only [aT7,kk,(aHw s).1,eL]
 by_cases h1:s.length<1
 ·rw [if_pos (by omega)];simp [h1]
 by_cases h2:24<s.length
 ·rw [if_neg (by omega),if_pos (by omega)];simp [h1,h2]
 rw [if_neg (by omega),if_neg (by omega)]
 simp only [h1,h2,kk]
 refine aZ (mV s s.length 0) (step:=vX) (fin:=fun _=>true) (fun i _ vs S=>vs=[.bool false]∧IterAt s i S) (fun r=>V.bool r=.bool (aS vX (fun _=>true) (mV s s.length 0) ())) ?_ ?_ (s:=()) ⟨rfl,(aHw s).2⟩ rfl
 ·rintro i ⟨q,r⟩ _ vs S hi ⟨rfl,hI⟩ aQ H
  obtain ⟨S',e,hI'⟩:=hI.next hi
  simp only [aFa,kk,e,bOj]
  simp only [vX] at H
  have H1:=fun h:vW (r:Int)=true=>(by simpa only [h,if_true] using H:∀ vs' S',vs'=[.bool false]∧IterAt s (i+1) S'→aQ vs' S') [.bool false] S' ⟨rfl,hI'⟩
  by_cases c1:vW (r:Int)=true
  ·simp only [c1,if_true];exact H1 c1
  ·simp only [c1,if_false] at H ⊢
   by_cases c2:q=0
   ·subst c2;simp at H ⊢;exact H
   ·have c2':¬ (q:Int)=0:=by omega
    simp only [c2,c2',if_false] at H ⊢
    by_cases c3:(48≤r∧r≤57)∨r=45∨r=95∨r=46
    ·simp only [c3,if_true] at H
     have h0:=H [.bool false] S' ⟨rfl,hI'⟩
     grind
    ·simp only [c3,if_false] at H
     grind
 ·rintro _ vs S ⟨rfl,hI⟩ aQ H
  simp only [aFa,kk,hI.last]
  exact H
theorem bF3 (r:Rate) (S:St) (K:KW):C 163 [.agg [.str r.cat,.int .i64 r.day.y,.int .i64 r.day.m,.int .i64 r.day.d,.int .i64 r.bp]] S K=K (.int .i64 (tY r)) S:=by
 refine (bLd rfl ?_).eq S K
 simp only [aT3,kk,aPz,zX,tY]
 cases eL r.cat<;>cases r.day.right<;>simp
 grind
theorem bF4 (a b:Rate) (S:St) (K:KW):C 164 [.agg [.str a.cat,.int .i64 a.day.y,.int .i64 a.day.m,.int .i64 a.day.d,.int .i64 a.bp],.agg [.str b.cat,.int .i64 b.day.y,.int .i64 b.day.m,.int .i64 b.day.d,.int .i64 b.bp]] S K=K (.bool (fH a b)) S:=by
 refine (bLf rfl ?_).eq S K
 simp only [aT5,kk,aPx,iL,fH]
 cases fS a.cat b.cat<;>cases (a.cat == b.cat)<;>simp
theorem g85 (l:List Rate) (S:St) (K:KW):C 85 [.imm (l.map Rate.enc)] S K=K (.bool (fT l)) S:=by
 refine (v85 rfl ?_).eq S K
 simp only [m85,kk,fT]
 by_cases h:24<l.length
 ·rw [if_pos (by omega),if_pos h]
 have h':¬ (24:Int)<(l.length:Int):=by omega
 simp only [h,h',kk]
 refine aZ l (step:=iK) (fin:=fun _=>true) (fun i s vs S=>s=fU l i∧vs=[.bool false,.int .i64 (i:Int)]) (fun r=>V.bool r=.bool (aS iK (fun _=>true) l none)) ?_ ?_ ⟨rfl,rfl⟩ rfl
 ·rintro i r s vs S hi ⟨rfl,rfl⟩ aQ H
  have hil:=(List.getElem?_eq_some_iff.1 hi).1
  have hn:fU l (i+1)=some r:=by simpa [fU] using hi
  simp only [hn] at H
  simp only [aJo,kk,dK hi,aG8 hi,Rate.enc,bF3,mO (show i<1000000000 by omega),iK] at H ⊢
  by_cases c:tY r=0
  ·simp only [c,kk,ne_eq,not_true_eq_false] at H ⊢
   cases i with
   | zero=>simp [fU] at H ⊢;exact H _ _ rfl
   | succ j=>
    have hj:l[j]?=some l[j]:=List.getElem?_eq_getElem (by omega)
    have hp:fU l (j+1)=some l[j]:=by simp [fU,hj]
    simp only [hp,gt0,kk,wrm (show j+1<1000000000 by omega),aG8 hj,Rate.enc,bF4] at H ⊢
    cases ha:fH l[j] r<;>simp [ha] at H ⊢<;>first | exact H | exact H _ _ rfl
  ·simp [c] at H ⊢
   exact H
 ·rintro s vs S ⟨rfl,rfl⟩ aQ H
  simp only [aJo,kk,Int.lt_irrefl]
  exact H
end Go.Proofs.YtoaibmbldmckaaaGreat
end
section
namespace Go.AM
theorem sE (P:Program) (C:aC) (g:FuncId) (a b args:List V) (S:St) (K:KW) (h:gO P g=some none):aEt P C (.func g a b) args S K=C g (a++args++b) S K:=by simp only [aEt,aEs,h];rfl
theorem Own.frz {S0 S:St} {n:Nat} {v:V} {es:List (List V)} (h:Own S0 S n v es) (hc:es.all cloVs=true):dH lX (oS (kA S 3) S) v=.ok (.imm es):=by
 rcases h.is with ⟨rfl,rfl⟩ | ⟨a,ver,tl,rfl,_,_,q⟩
 ·rfl
 ·have he:bQ S (.sl a ver n 0 es.length)=.ok es:=h.sl.elems
  simp only [dH,oS,he,(nZ (S:=S) (n:=2) hc).1]
theorem Own.ptrs {S0 S:St} {n:Nat} {v:V} {es:List (List V)} (h:Own S0 S n v es):qG v=[]:=by
 rcases h.is with ⟨rfl,rfl⟩ | ⟨a,ver,tl,rfl,_,_,q⟩<;>rfl
theorem dM {α:Type} {enc:α→List V} (h:∀ x,cloVs (enc x)=true) (l:List α):(l.map enc).all cloVs=true:=by
 rw [List.all_eq_true]
 intro y hy
 obtain ⟨x,_,rfl⟩:=List.mem_map.1 hy
 exact h x
theorem Sl.imm {n:Nat} {es:List (List V)} (S:St) (h:∀ cs,cs∈es→cs.length=n∧aM cs=true):Sl S n (.imm es) es:=⟨.inr (.inl rfl),h⟩
abbrev E0:St:=⟨0,.nil⟩
theorem oU:WF E0:=fun a b h=>by cases h
theorem aQ0 {α:Type} {enc:α→List V} {n b:Nat} (hl:∀ x,(enc x).length=n∧aM (enc x)=true) (l:List α) {S:St} (w:WF S) (h1:l.length*b≤35184372088832) (h2:l.length<eG):
  ∃ v S',cQ n b .nils (.imm (l.map enc)) none S=.ok (v,S')∧Ext S S'∧Own E0 S' n v (l.map enc):=by
 obtain ⟨v,S',q1,q2,q3⟩:=(Sl.imm (n:=n) (es:=l.map enc) S (fun cs hc=>by obtain ⟨x,_,rfl⟩:=List.mem_map.1 hc;exact hl x)).copy (b:=b) w (by rw [List.length_map];exact h1) (by rw [List.length_map];exact h2)
 exact ⟨v,S',q1,q2,q3.weaken (Nat.zero_le _)⟩
theorem aHx {α:Type} {enc:α→List V} {n b:Nat} (hl:∀ x,(enc x).length=n∧aM (enc x)=true) (l:List α) {S:St} (w:WF S) (h1:l.length*b≤35184372088832) (h2:l.length<eG):
  ∃ v S',cQ n b .nils (.imm (l.map enc)) none S=.ok (v,S')∧Ext S S'∧Own S S' n v (l.map enc):=
 (Sl.imm (n:=n) (es:=l.map enc) S (fun cs hc=>by obtain ⟨x,_,rfl⟩:=List.mem_map.1 hc;exact hl x)).copy (b:=b) w (by rw [List.length_map];exact h1) (by rw [List.length_map];exact h2)
theorem aCk {S:St} (w:WF S):Ext E0 S:=⟨fun a b h=>(by cases h),Nat.zero_le _,fun _=>w⟩
theorem Pt.fn {l:V} {f:FuncId} (hl:xO l=true):Pt fun a=>[l,.func f [] [.ptr a 0 0 0]]:=Pt.next hl (Pt.func rfl)
end Go.AM
namespace Go.Proofs.YtoaibmbldmckaaaGreat
open Go.AM Tryz
set_option linter.unusedVariables false
set_option linter.unusedSimpArgs false
set_option maxRecDepth 100000
theorem bOk (fk:Nat) (ht:gO prog fk=some none) {n:Nat} {cap:List V} (hcap:cloVs cap=true) (p:Sess→Bool) (hf:∀ s:Sess,Fr fk (fun a=>[.agg s.enc,.ptr a 0 0 0]) n cap (.bool (p s)) cap) (l:List Sess) (hb:l.length<1000000):
  Fr 231 (fun a=>[.imm (l.map Sess.enc),.func fk [] [.ptr a 0 0 0]]) n cap (.int .i64 (ixM p l)) cap:=by
 refine FnR.of bEj (lv:=bF 231) (Pt.fn rfl) (by simp [hcap]) ?_ rfl (by simp [hcap])
 rw [bN4]
 simp only [aZ2,kk]
 refine aZ l (step:=eS p) (fin:=fun _=>-1) (fun i k vs S=>k=i∧vs=[.int .i64 0,.int .i64 (i:Int)]∧S.heap.get 0=some (.row 0 n [cap])) (fun r=>r=ixM p l) ?_ ?_ ⟨rfl,rfl,Tr.get_put_sameB _ _ _ trivial⟩ rfl
 ·rintro i s k vs S hi ⟨rfl,rfl,hg⟩ aQ H
  have hil:=(List.getElem?_eq_some_iff.1 hi).1
  have he:=(hf s).eq_same hg
  simp only [Sess.enc] at he
  simp only [aFs,kk,dK hi,aBr hi,Sess.enc,sE _ _ _ _ _ _ _ _ ht,List.nil_append,List.cons_append,he,mO (show k<1000000000 by omega)]
  simp only [eS] at H
  cases hp:p s<;>simp only [hp,kk] at H ⊢
  ·exact H _ _ ⟨rfl,rfl,hg⟩
  ·exact ⟨by rw [H],hg⟩
 ·rintro k vs S ⟨rfl,rfl,hg⟩ aQ H
  simp only [aFs,kk,Int.lt_irrefl]
  exact ⟨by rw [H],hg⟩
theorem bF5 (fk:Nat) (ht:gO prog fk=some none) {n:Nat} {cap:List V} (hcap:cloVs cap=true) (p:Ser→Bool) (hf:∀ s:Ser,Fr fk (fun a=>[.agg s.enc,.ptr a 0 0 0]) n cap (.bool (p s)) cap) (l:List Ser) (hb:l.length<1000000):
  Fr 152 (fun a=>[.imm (l.map Ser.enc),.func fk [] [.ptr a 0 0 0]]) n cap (.int .i64 (ixM p l)) cap:=by
 refine FnR.of bEb (lv:=bF 152) (Pt.fn rfl) (by simp [hcap]) ?_ rfl (by simp [hcap])
 rw [bL6]
 simp only [aYy,kk]
 refine aZ l (step:=eS p) (fin:=fun _=>-1) (fun i k vs S=>k=i∧vs=[.int .i64 0,.int .i64 (i:Int)]∧S.heap.get 0=some (.row 0 n [cap])) (fun r=>r=ixM p l) ?_ ?_ ⟨rfl,rfl,Tr.get_put_sameB _ _ _ trivial⟩ rfl
 ·rintro i s k vs S hi ⟨rfl,rfl,hg⟩ aQ H
  have hil:=(List.getElem?_eq_some_iff.1 hi).1
  have he:=(hf s).eq_same hg
  simp only [Ser.enc] at he
  simp only [aF5,kk,dK hi,zF hi,Ser.enc,sE _ _ _ _ _ _ _ _ ht,List.nil_append,List.cons_append,he,mO (show k<1000000000 by omega)]
  simp only [eS] at H
  cases hp:p s<;>simp only [hp,kk] at H ⊢
  ·exact H _ _ ⟨rfl,rfl,hg⟩
  ·exact ⟨by rw [H],hg⟩
 ·rintro k vs S ⟨rfl,rfl,hg⟩ aQ H
  simp only [aF5,kk,Int.lt_irrefl]
  exact ⟨by rw [H],hg⟩
theorem bF6:gO prog 232=some none:=by kernel_rfl
theorem bOl (id:Int) (s:Sess):Fr 232 (fun a=>[.agg s.enc,.ptr a 0 0 0]) 1 [.int .i64 id] (.bool (decide (s.id=id))) [.int .i64 id]:=by
 refine FnR.of bEk (lv:=bF 232) (Pt.next rfl (Pt.head rfl)) rfl ?_ rfl rfl
 rw [bN5]
 simp only [aZ3,kk,Sess.enc,iL]
 rfl
theorem bF7 (l:List Sess) (id:Int) (hb:l.length<1000000):Fv 174 [.imm (l.map Sess.enc),.int .i64 id] (.int .i64 (gL l id)):=by
 refine bLu rfl ?_
 have h:=(bOk 232 bF6 rfl _ (bOl id) l hb).eq_same (S:=⟨1,Tr.nil.put 0 (.row 0 1 [[.int .i64 id]])⟩) (a:=0) (Tr.get_put_sameB _ _ _ trivial)
 simp only [aTk,kk,h,gL]
theorem bB1 (l:List Sess) (id:Int) (hb:l.length<1000000) (S:St) (K:KW):C 174 [.imm (l.map Sess.enc),.int .i64 id] S K=K (.int .i64 (gL l id)) S:=(bF7 l id hb).eq S K
theorem aX1 (l:List Sess) (S:St) (K:KW):C 166 [.imm (l.map Sess.enc)] S K=K (.bool (fZ l)) S:=by
 refine (bLj rfl ?_).eq S K
 simp only [aT9,kk,fZ]
 by_cases h:8<l.length
 ·rw [if_pos (by omega),if_pos h]
 have h':¬ (8:Int)<(l.length:Int):=by omega
 simp only [h,h',kk]
 refine aZ l (step:=iW) (fin:=fun _=>true) (fun i s vs S=>vs=[.bool false,.int .i64 s,.int .i64 (i:Int)]) (fun r=>V.bool r=.bool (aS iW (fun _=>true) l 0)) ?_ ?_ rfl rfl
 ·rintro i s last vs S hi rfl aQ H
  have hil:=(List.getElem?_eq_some_iff.1 hi).1
  have hn:((s.reply=Rep.zero):Prop)=((s.reply.why=0∧s.reply.number=0)∧s.reply.gross=0):=by
   obtain ⟨_,_,⟨_,_,_⟩⟩:=s;simp [Rep.zero,and_assoc]
  simp only [iW,hn,kk] at H
  simp only [aFb,kk,dK hi,aBr hi,Sess.enc,mO (show i<1000000000 by omega)]
  grind
 ·rintro s vs S rfl aQ H
  simp only [aFb,kk,Int.lt_irrefl]
  exact H
end Go.Proofs.YtoaibmbldmckaaaGreat
end
section
namespace Go.AM
theorem bsl (n:Nat) (z:List V) (parts:List (Nat×V)) (fr:Option Nat) (S:St) (hn:n≤1000):aP n z 1 parts fr S=(match sI n [z] parts with
  | .error e=>.error e
  | .ok elems=>match aJ fr S (.row 0 n elems) with
   | .error e=>.error e
   | .ok (a,S')=>.ok (.sl a 0 n 0 1,S')):=by
 unfold aP
 rw [if_pos (by omega)]
 rfl
theorem bOm (z:List V) (parts:List (Nat×V)) (fr:Option Nat) (S:St):type_of% (bsl 1 z parts fr S (by decide)):=bsl 1 z parts fr S (by decide)
theorem bF8 (z:List V) (parts:List (Nat×V)) (fr:Option Nat) (S:St):type_of% (bsl 2 z parts fr S (by decide)):=bsl 2 z parts fr S (by decide)
theorem aQ1 (z:List V) (parts:List (Nat×V)) (fr:Option Nat) (S:St):type_of% (bsl 4 z parts fr S (by decide)):=bsl 4 z parts fr S (by decide)
theorem bF9 (z:List V) (parts:List (Nat×V)) (fr:Option Nat) (S:St):type_of% (bsl 5 z parts fr S (by decide)):=bsl 5 z parts fr S (by decide)
theorem aQ2 (z:List V) (parts:List (Nat×V)) (fr:Option Nat) (S:St):type_of% (bsl 12 z parts fr S (by decide)):=bsl 12 z parts fr S (by decide)
theorem hJ {n m k:Nat} {h:Tr Blk} {b:Blk} (w:WF ⟨n,h⟩) (h1:k<m) (h2:n≤m):WF ⟨m,h.put k b⟩:=by
 intro a c hc
 have hc':(h.put k b).get a=some c:=hc
 rw [Tr.get_putB _ _ _ _ trivial] at hc'
 split at hc'
 ·show a<m;omega
 ·have:=w a c hc';show a<m;have:a<n:=this;omega
theorem WF.bump {S:St} (w:WF S) (c:Nat):WF ⟨S.next+c,S.heap⟩:=fun a b h=>Nat.lt_of_lt_of_le (w a b h) (Nat.le_add_right _ _)
theorem wQ {S:St} {a ver n:Nat} {el:List (List V)} (h:aI S a ver=.ok (n,el)):S.heap.get a=some (.row ver n el):=by
 unfold aI at h
 split at h
 ·rename_i v es els he
  rw [cond_eq_ite] at h
  split at h
  ·rename_i hv
   have:=Nat.eq_of_beq_eq_true hv
   cases h
   rw [he,this]
  ·cases h
 ·cases h
theorem aX {S S':St} {a ver n:Nat} {el:List (List V)} (hg:aI S a ver=.ok (n,el)) (h:S'.heap.get a=S.heap.get a):aI S' a ver=.ok (n,el):=by
 rw [←hg];unfold aI;rw [h]
theorem aXs {P:Program} {T:TypeId} {n b:Nat} (hT:apT P T=some (n,b)) (hn:1<n) {S:St} {v:V} {es:List (List V)} (h:Own E0 S n v es) (w:WF S) {c:List V} (hc:c.length=n∧aM c=true) (h1:(es.length+1)*b≤35184372088832) (h2:es.length+1<eG) {i:Nat} (hi:i≤es.length):
  ∃ v' S',fX P T v (.int .i64 (i:Int)) (.sl S.next 0 n 0 1) ⟨S.next+1,S.heap.put S.next (.row 0 n [c])⟩=.ok (v',S')∧WF S'∧Own E0 S' n v' (es.take i++c::es.drop i)∧∀ y,y<S.next→(∀ a ver m,v=.sl a ver n 0 m→y≠a)→S'.heap.get y=S.heap.get y:=by
 have x:Ext S ⟨S.next+1,S.heap.put S.next (.row 0 n [c])⟩:=Ext.new w _
 obtain ⟨v',S',q1,q2,q3,q4⟩:=(h.ext x).insertK hT hn (aCk (x.wf w)) oU (bx:=S.next) (c:=c) (aO _ _ _ _ _ _) (fun a ver m hv=>by
  rcases h.is with ⟨rfl,_⟩ | ⟨a',ver',tl,rfl,_,hlt,_⟩
  ·cases hv
  ·cases hv;omega) hc h1 h2 hi
 refine ⟨v',S',q1,q2.wf oU,q3,fun y hy hya=>?_⟩
 rw [q4 y (by show y<S.next+1;omega) hya]
 exact Tr.get_put_neB _ _ _ _ trivial (by omega)
theorem bFa {P:Program} {T:TypeId} {n b:Nat} (hT:apT P T=some (n,b)) (hn:1<n) {S:St} {v:V} {es:List (List V)} (h:Own E0 S n v es) (w:WF S) {c:List V} (hc:c.length=n∧aM c=true) (h1:(es.length+1)*b≤35184372088832) (h2:es.length+1<eG) {i:Nat} (hi:i≤es.length):
  ∃ v' S',fX P T v (.int .i64 (i:Int)) (.sl S.next 0 n 0 1) ⟨S.next+1,S.heap.put S.next (.row 0 n [c])⟩=.ok (v',S')∧WF S'∧Own E0 S' n v' (es.take i++c::es.drop i):=by
 obtain ⟨v',S',q1,q2,q3,_⟩:=aXs hT hn h w hc h1 h2 hi
 exact ⟨v',S',q1,q2,q3⟩
end Go.AM
namespace Go.Proofs.YtoaibmbldmckaaaGreat
open Go.AM Tryz
set_option linter.unusedVariables false
set_option linter.unusedSimpArgs false
set_option maxRecDepth 100000
theorem aNh {f:FuncId} {T:TypeId} (hpl:tX f=some (.spec ((Sp.ins T).run prog))) {s i x v:V} {S S':St} (h:fX prog T s i x S=.ok (v,S')) (K:KW):C f [s,i,x] S K=K v S':=aP8 hpl (args:=[s,i,x]) (show (Sp.ins T).run prog [s,i,x] S=.ok (v,S') from h) K
theorem bOn {f:FuncId} {T:TypeId} (hpl:tX f=some (.spec ((Sp.del T).run prog))) {s i x v:V} {S S':St} (h:oX prog T s i x S=.ok (v,S')) (K:KW):C f [s,i,x] S K=K v S':=aP8 hpl (args:=[s,i,x]) (show (Sp.del T).run prog [s,i,x] S=.ok (v,S') from h) K
theorem bOo:apT prog 28=some (5,40):=by kernel_rfl
theorem bOp:apT prog 25=some (4,40):=by kernel_rfl
theorem bFb:tX 230=some (.spec ((Sp.ins 28).run prog)):=by kernel_rfl
theorem bFc:tX 234=some (.spec ((Sp.ins 25).run prog)):=by kernel_rfl
theorem bFd:tX 240=some (.spec ((Sp.del 28).run prog)):=by kernel_rfl
theorem aDl (x:Sess):x.enc.length=5∧aM x.enc=true:=⟨rfl,rfl⟩
theorem aNi (x:Ser):x.enc.length=4∧aM x.enc=true:=⟨rfl,rfl⟩
theorem bFe (l:List Sess) (id seq:Int) (S:St) (K:KW):C 105 [.imm (l.map Sess.enc),.int .i64 id,.int .i64 seq] S K=K (.tup [.agg [.int .i64 (cJ l id seq).1.why,.int .i64 (cJ l id seq).1.number,.int .i64 (cJ l id seq).1.gross],.bool (cJ l id seq).2.1,.int .i64 (cJ l id seq).2.2]) S:=by
 refine (bKl rfl ?_).eq S K
 simp only [aSb,aF2,kk,aX1]
 by_cases hr:fZ l=true
 ·have hb:=lR hr
  simp only [hr,kk,bB1 l id (show l.length<1000000 by omega),cJ,Bool.true_eq_false,if_false]
  rcases iX l id with h | ⟨i,s,h,h2,h3⟩
  ·simp only [h,show (-1:Int)<0 by decide,kk,oo,Rep.zero,if_true]
  ·simp only [h,show ¬ (i:Int)<0 by omega,kk,if_false,aBr h2,Sess.enc,Int.toNat_natCast,h2]
   by_cases c1:seq<1
   ·simp only [c1,kk,oo,Rep.zero,true_or,if_true]
   ·by_cases c2:1099511627776<seq
    ·simp only [c1,c2,kk,oo,Rep.zero,or_true,if_true,if_false,decide_true]
    ·simp only [c1,c2,kk,oo,or_self,if_false,decide_false]
     by_cases c3:seq=s.last
     ·simp only [c3,kk,oo,if_true]
     ·by_cases c4:seq<s.last<;>simp only [c3,c4,kk,oo,Rep.zero,if_true,if_false]
 ·have hr:fZ l=false:=by simpa using hr
  simp only [hr,kk,oo,cJ,Rep.zero,if_true]
theorem bFf (l:List Sess) (n:Int) (S:St) (K:KW):C 173 [.imm (l.map Sess.enc),.int .i64 n] S K=K (.tup [.imm ((mW l n).1.map Sess.enc),.int .i64 (mW l n).2]) S:=by
 refine (bLs rfl ?_).eq S K
 simp only [aTi,aFf,kk,aX1]
 by_cases hr:fZ l=true
 ·have hb:=lR hr
  simp only [hr,kk,bB1 l n (show l.length<1000000 by omega),mW,Bool.true_eq_false,false_or]
  by_cases c1:n<1
  ·simp only [c1,kk,oo,if_true,List.map_nil]
  ·simp only [c1,kk,if_false]
   by_cases c2:0≤gL l n
   ·simp only [c2,kk,oo,if_true,List.map_nil]
   ·by_cases c3:8≤l.length
    ·simp only [c2,c3,show (8:Int)≤(l.length:Int) by omega,kk,oo,if_true,if_false,List.map_nil]
    ·simp only [c2,c3,show ¬ (8:Int)≤(l.length:Int) by omega,kk,if_false]
     have hj:∀ k:Nat,k=kZ (fun s:Sess=>decide (s.id<n)) l→aAa C (fun v0 S0=>bY S0 v0=Except.ok (.tup [.imm ((fB l (kZ (fun s:Sess=>decide (s.id<n)) l) ⟨n,0,Rep.zero⟩).map Sess.enc),.int .i64 0])) (.imm (l.map Sess.enc)) (.int .i64 n) (.int .i64 (k:Int)) ⟨0,.nil⟩:=by
      intro k hk
      obtain ⟨v,S1,q1,x1,own⟩:=aQ0 (b:=40) aDl l oU (by omega) (by unfold eG;omega)
      have w1:=x1.wf oU
      have hkl:k≤l.length:=by rw [hk];exact vY _ _
      obtain ⟨v2,S2,q2,w2,own2⟩:=bFa bOo (by decide) own w1 (aDl ⟨n,0,Rep.zero⟩) (by simp;omega) (by simp [eG];omega) (i:=k) (by simpa using hkl)
      simp only [Sess.enc,Rep.zero] at q2
      simp only [aAa,kk,q1,bF9]
      rw [aNh bFb q2]
      rw [←lS] at own2
      simp only [oo,own2.frz (dM (fun _=>rfl) _),hk]
     refine aZ l (step:=eM (fun s:Sess=>decide (s.id<n))) (fin:=id) (fun i k vs S=>k=i∧vs=[.int .i64 (i:Int)]∧S=⟨0,.nil⟩) (fun r=>r=kZ (fun s:Sess=>decide (s.id<n)) l) ?_ ?_ ⟨rfl,rfl,rfl⟩ rfl
     ·rintro i s k vs S hi ⟨rfl,rfl,rfl⟩ aQ H
      have hil:=(List.getElem?_eq_some_iff.1 hi).1
      simp only [eM] at H
      simp only [aFe,kk,dK hi,aBr hi,Sess.enc,mO (show k<1000000000 by omega)]
      by_cases c:s.id<n<;>simp only [c,kk,if_true,if_false,decide_true,decide_false] at H ⊢
      ·exact H _ _ ⟨rfl,rfl⟩
      ·exact hj _ H
     ·rintro k vs S ⟨rfl,rfl,rfl⟩ aQ H
      simp only [aFe,kk,Int.lt_irrefl]
      exact hj _ (by simpa using H)
 ·have hr:fZ l=false:=by simpa using hr
  simp only [hr,kk,oo,mW,true_or,if_true,List.map_nil]
theorem bOq:jG prog 28=some 132:=by kernel_rfl
theorem bFg:rN prog 132=some [.int .i64 0,.int .i64 0,.int .i64 0,.int .i64 0,.int .i64 0]:=by kernel_rfl
theorem bFh:sz prog 132=5:=by kernel_rfl
theorem bOr (l:List Sess) (id:Int) (S:St) (K:KW):C 182 [.imm (l.map Sess.enc),.int .i64 id] S K=K (.tup [.imm ((fV l id).1.map Sess.enc),.int .i64 (fV l id).2]) S:=by
 refine (bMa rfl ?_).eq S K
 simp only [aTy,kk,aX1]
 by_cases hr:fZ l=true
 ·have hb:=lR hr
  simp only [hr,kk,bB1 l id (show l.length<1000000 by omega),fV,Bool.true_eq_false]
  rcases iX l id with h | ⟨i,s,h,h2,h3⟩
  ·simp only [h,show (-1:Int)<0 by decide,kk,oo,if_true,List.map_nil]
  ·have hil:=(List.getElem?_eq_some_iff.1 h2).1
   obtain ⟨v,S1,q1,x1,own⟩:=aQ0 (b:=40) aDl l oU (by omega) (by unfold eG;omega)
   obtain ⟨v2,S2,q2,x2,own2⟩:=own.delete bOq bFg bFh (aCk (x1.wf oU)) oU (by simp [eG];omega) (i:=i) (by simpa using hil)
   rw [←aJz] at own2
   simp only [h,show ¬ (i:Int)<0 by omega,kk,if_false,q1,kX (show -9223372036854775808≤(i:Int)+1 by omega) (show (i:Int)+1≤9223372036854775807 by omega),Int.toNat_natCast]
   rw [bOn bFd q2]
   simp only [oo,own2.frz (dM (fun _=>rfl) _)]
 ·have hr:fZ l=false:=by simpa using hr
  simp only [hr,kk,oo,fV,if_true,List.map_nil]
theorem bOs (l:List Sess) (id seq:Int) (r:Rep) (S:St) (K:KW):C 107 [.imm (l.map Sess.enc),.int .i64 id,.int .i64 seq,.agg [.int .i64 r.why,.int .i64 r.number,.int .i64 r.gross]] S K=K (.tup [.imm ((jI l id seq r).1.map Sess.enc),.int .i64 (jI l id seq r).2]) S:=by
 refine (bKp rfl ?_).eq S K
 simp only [aSf,kk,bFe,jI]
 by_cases h0:(cJ l id seq).2.2=0
 ·simp only [h0,kk,not_true_eq_false,if_false]
  by_cases h1:(cJ l id seq).2.1=true
  ·simp only [h1,kk,oo,if_true,List.map_nil]
  ·obtain ⟨hr,i,s,h2,h3⟩:=aBk h0
   have hb:=lR hr
   have hil:=(List.getElem?_eq_some_iff.1 h3).1
   simp only [h1,kk,if_false,h2,Int.toNat_natCast,h3]
   obtain ⟨S0,hS0⟩:∃ S0:St,S0=⟨1+1,((Tr.nil.put 0 (Blk.row 0 (1+1+1) [[V.int .i64 r.why,.int .i64 r.number,.int .i64 r.gross]])).put 1 (Blk.row 0 3 [[V.int .i64 0,.int .i64 0,.int .i64 0]])).put 1 (Blk.row 0 3 [[V.int .i64 (cJ l id seq).1.why,.int .i64 (cJ l id seq).1.number,.int .i64 (cJ l id seq).1.gross]])⟩:=⟨_,rfl⟩
   have w0:WF S0:=by rw [hS0];exact hJ (n:=2) (hJ (n:=1) (m:=2) (hJ (m:=1) oU (by decide) (by decide)) (by decide) (by decide)) (by decide) (by decide)
   have hg0:aI S0 0 0=.ok (3,[r.enc]):=by rw [hS0];rfl
   rw [←hS0]
   obtain ⟨v,S1,q1,x1,own⟩:=aHx (b:=40) aDl l w0 (by omega) (by unfold eG;omega)
   have w1:=x1.wf w0
   have xb:Ext S0 ⟨S1.next+12,S1.heap⟩:=x1.bump 12
   have own':=own.ext ((Ext.refl S1).bump 12)
   have hg1:aI ⟨S1.next+12,S1.heap⟩ 0 0=.ok (3,[r.enc]):=x1.row hg0
   have hb1:S0.next=2:=by rw [hS0]
   obtain ⟨a,ver,e1,e2,e3,e4,_,set1⟩:=own'.setK xb w0 (i:=i) (cs:=s.enc) (by simp [h3]) .i64
   obtain ⟨S2,st1,x2,n2,own2,keep2,w2⟩:=set1 1 1 (.int .i64 seq) rfl rfl (by decide)
   obtain ⟨a',ver',e1',_,_,e4',_,set2⟩:=own2.setK x2 w0 (i:=i) (cs:=splice s.enc 1 [.int .i64 seq]) (by rw [List.getElem?_set_self (by simpa using hil)];rfl) .i64
   obtain ⟨rfl,rfl⟩:a'=a∧ver'=ver:=by rw [e1] at e1';injection e1' with h1 h2;exact ⟨h1.symm,h2.symm⟩
   obtain ⟨S3,mK,_,n3,own3,keep3,w3⟩:=set2 2 3 (.agg r.enc) rfl rfl (by decide)
   have hg2:=aX hg1 (keep2 0 (by omega))
   simp only [Rep.enc] at hg1 hg2 mK
   have hfz:frzVs lX (oS (kA S1 3) S1) [v,.int .i64 id]=.ok [.imm (l.map Sess.enc),.int .i64 id]:=by
    simp only [frzVs,own.frz (dM (fun _=>rfl) _),dH]
   simp only [q1,kk]
   rw [show C 174 [v,.int .i64 id] S1 _=_ from (bF7 l id (by omega)).frz bEg rfl hfz (by simp [ptrsVs,own.ptrs,qG]) (.inl rfl) _]
   have e5:(0:Nat)≠a':=by omega
   have hfin:((l.map Sess.enc).set i (splice s.enc 1 [.int .i64 seq])).set i (splice (splice s.enc 1 [.int .i64 seq]) 2 r.enc)=(l.set i ⟨s.id,seq,r⟩).map Sess.enc:=by
    rw [List.set_set,List.map_set];rfl
   simp only [V.cells] at own3
   rw [hfin] at own3
   have e4'':cP 5 v (.int .i64 (i:Int))=.ok (.ptr a' ver' i 0):=e4
   simp only [h2,e4'',kk,hg1,hg2,st1,mK,oo,own3.frz (dM (fun _=>rfl) _)]
   simp
 ·simp only [h0,kk,oo,if_true,not_false_eq_true,List.map_nil]
end Go.Proofs.YtoaibmbldmckaaaGreat
end
section
namespace Go.Proofs.YtoaibmbldmckaaaGreat
open Go.AM Tryz
theorem g86 (l:List Ser) (S:St) (K:KW):C 86 [.imm (l.map Ser.enc)] S K=K (.bool (mN l)) S:=by
 refine (v86 rfl ?_).eq S K
 simp only [m86,kk,mN]
 by_cases h:8<l.length
 ·rw [if_pos (by omega),if_pos h]
 have h':¬ (8:Int)<(l.length:Int):=by omega
 simp only [h,h',kk]
 refine aZ l (step:=mX) (fin:=fun _=>true) (fun i s vs S=>s=fU l i∧vs=[.bool false,.int .i64 (i:Int)]) (fun r=>V.bool r=.bool (aS mX (fun _=>true) l none)) ?_ ?_ ⟨rfl,rfl⟩ rfl
 ·rintro i r s vs S hi ⟨rfl,rfl⟩ aQ H
  have hil:=(List.getElem?_eq_some_iff.1 hi).1
  have hn:fU l (i+1)=some r:=by simpa [fU] using hi
  simp only [hn,mX] at H
  simp only [aJq,aJp,kk,dK hi,zF hi,Ser.enc,aPz,mO (show i<1000000000 by omega)]
  cases hna:eL r.name
  ·simp [hna] at H ⊢;exact H
  ·simp only [hna,kk,Bool.true_eq_false,if_false] at H ⊢
   cases i with
   | zero=>
    simp only [fU,oG,kk,Bool.false_eq_true,if_false,if_true,qV,Bool.or_eq_true,decide_eq_true_eq] at H ⊢
    simp only [Int.natCast_zero,Int.lt_irrefl,kk,if_false]
    grind
   | succ j=>
    have hj:l[j]?=some l[j]:=List.getElem?_eq_getElem (by omega)
    have hp:fU l (j+1)=some l[j]:=by simp [fU,hj]
    simp only [hp,gt0,kk,wrm (show j+1<1000000000 by omega),zF hj,Ser.enc,oG,qV,Bool.or_eq_true,decide_eq_true_eq] at H ⊢
    grind
 ·rintro s vs S ⟨rfl,rfl⟩ aQ H
  simp only [aJq,kk,Int.lt_irrefl]
  exact H
theorem bFi:gO prog 263=some none:=by kernel_rfl
theorem bOu (name:List UInt8) (s:Ser):Fr 263 (fun a=>[.agg s.enc,.ptr a 0 0 0]) 1 [.str name] (.bool (s.name == name)) [.str name]:=by
 refine FnR.of bEm (lv:=bF 263) (Pt.next rfl (Pt.head rfl)) rfl ?_ rfl rfl
 rw [bNn]
 simp only [aZ4,kk,Ser.enc,iL]
 rfl
theorem bOv (l:List Ser) (name:List UInt8) (hb:l.length<1000000):Fv 233 [.imm (l.map Ser.enc),.str name] (.int .i64 (hU l name)):=by
 refine bN7 rfl ?_
 have h:=(bF5 263 bFi rfl _ (bOu name) l hb).eq_same (S:=⟨1,Tr.nil.put 0 (.row 0 1 [[.str name]])⟩) (a:=0) (Tr.get_put_sameB _ _ _ trivial)
 simp only [aUu,kk,h,hU]
theorem bB2 (l:List Ser) (name:List UInt8) (hb:l.length<1000000) (S:St) (K:KW):C 233 [.imm (l.map Ser.enc),.str name] S K=K (.int .i64 (hU l name)) S:=(bOv l name hb).eq S K
theorem bOw (l:List Ser) (name:List UInt8) (hb:l.length<1000000) (S:St) (K:KW):C 241 [.imm (l.map Ser.enc),.str name] S K=K (.tup [.agg [.str (kC l name).1.name,.int .i64 (kC l name).1.next,.int .i64 (kC l name).1.limit,.bool (kC l name).1.shut],.bool (kC l name).2]) S:=by
 refine (bNh rfl ?_).eq S K
 simp only [aV4,kk,bB2 l name hb,kC]
 rcases kP l name with h | ⟨i,s,h,h2,h3⟩
 ·simp only [h,show (-1:Int)<0 by decide,kk,oo,Ser.zero,if_true]
 ·simp only [h,show ¬ (i:Int)<0 by omega,kk,if_false,zF h2,Ser.enc,Int.toNat_natCast,h2,oo]
theorem bFj (l:List Ser) (name:List UInt8) (S:St) (K:KW):C 236 [.imm (l.map Ser.enc),.str name] S K=K (fY (hZ l name)) S:=by
 refine (bNb rfl ?_).eq S K
 simp only [aUy,kk,g86,hZ,fY]
 by_cases hr:mN l=true
 ·have hb:=oH hr
  simp only [hr,kk,bB2 l name (show l.length<1000000 by omega),Bool.true_eq_false,if_false]
  rcases kP l name with h | ⟨i,s,h,h2,h3⟩
  ·simp only [h,show (-1:Int)<0 by decide,kk,oo,if_true]
  ·simp only [h,show ¬ (i:Int)<0 by omega,kk,if_false,zF h2,Ser.enc,Int.toNat_natCast,h2,oo]
   cases s.shut<;>simp
 ·have hr:mN l=false:=by simpa using hr
  simp only [hr,kk,oo,if_true]
theorem bB3 (l:List Ser) (hb:l.length<1000000) {S:St} (w:WF S) {K:KW} (k:∀ v S',Ext S S'→Own S S' 4 v (l.map Ser.enc)→K v S'):C 235 [.imm (l.map Ser.enc)] S K:=by
 refine bN9 rfl ?_
 simp only [aUw,kk]
 cases l with
 | nil=>
  exact k .nils ⟨S.next+0,S.heap⟩ ⟨fun a b h=>h,Nat.le_refl _,fun w=>w⟩ (Own.nil _ _ _)
 | cons x l=>
  obtain ⟨v,S1,q1,x1,own⟩:=aHx (b:=40) aNi (x::l) oU (by omega) (by unfold eG;omega)
  have q2:cQ 4 40 .nils (.imm ((x::l).map Ser.enc)) none E0=.ok (.sl 0 0 4 0 (l.length+1),⟨1,Tr.nil.put 0 (.row 0 4 ((x::l).map Ser.enc))⟩):=by
   have a1:iO 4 ((x::l).map Ser.enc)=true∧((x::l).map Ser.enc).all aM=true:=dG (fun c hc=>by obtain ⟨y,_,rfl⟩:=List.mem_map.1 hc;exact aNi y)
   simp only [cQ,bQ]
   rw [if_pos a1]
   simp only [List.map_cons]
   have hb2:l.length+1<1000000:=hb
   simp only [List.length_cons,List.length_map,eB]
   rw [if_pos (by unfold eG;omega)]
  rw [q2]
  simp only [kk]
  have hc:((x::l).map Ser.enc).all cloVs=true:=dM (fun _=>rfl) _
  have ho:pJ [0] (.sl 0 0 4 0 (l.length+1)) ⟨1,Tr.nil.put 0 (.row 0 4 ((x::l).map Ser.enc))⟩ S=.ok (.sl S.next 0 4 0 (l.length+1),⟨S.next+1,S.heap.put S.next (.row 0 4 ((x::l).map Ser.enc))⟩):=by
   have hg:(Tr.nil.put 0 (Blk.row 0 4 ((x::l).map Ser.enc))).get 0=some (.row 0 4 ((x::l).map Ser.enc)):=Tr.get_put_sameB _ _ _ trivial
   obtain ⟨z1,z2⟩:=nZ (S:=⟨1,Tr.nil.put 0 (.row 0 4 ((x::l).map Ser.enc))⟩) (n:=2) hc
   simp only [List.map_cons] at hg z1 z2
   simp only [pJ,V.cells,zQ,iF,Nat.beq_refl,Bool.true_or,cond_true,hM,hg,z1,pB,tH,dP,z2,qD,mM,aCs,hg,z1,z2,Nat.zero_add,List.append_nil,List.any_nil,List.length_cons,List.length_nil,Nat.zero_add,Bool.not_false,Bool.and_self,List.nil_append,List.map_cons]
  rw [ho]
  simp only [kk]
  refine k _ _ (Ext.new w _) ⟨.inr ⟨S.next,0,[],by simp,Nat.le_refl _,Nat.lt_succ_self _,?_⟩,fun c hc=>by obtain ⟨y,_,rfl⟩:=List.mem_map.1 hc;exact aNi y⟩
  rw [List.append_nil];exact Tr.get_put_sameB _ _ _ trivial
theorem bOx (l:List Ser) (name:List UInt8) (limit:Int) (S:St) (K:KW):C 175 [.imm (l.map Ser.enc),.str name,.int .i64 limit] S K=K (.tup [.imm ((eW l name limit).1.map Ser.enc),.int .i64 (eW l name limit).2]) S:=by
 refine (bLw rfl ?_).eq S K
 simp only [aTm,aFh,kk,g86,aPz]
 by_cases hr:mN l=true
 ·have hb:=oH hr
  simp only [hr,kk,bB2 l name (show l.length<1000000 by omega),eW,Bool.true_eq_false,if_false]
  by_cases hn:eL name=true
  ·simp only [hn,kk,Bool.true_eq_false,if_false]
   by_cases c1:limit<1
   ·simp only [c1,kk,oo,if_true,List.map_nil,true_or]
   ·by_cases c2:1099511627776<limit
    ·simp only [c1,c2,kk,oo,if_true,if_false,List.map_nil,or_true,decide_true]
    ·simp only [c1,c2,kk,if_false,or_self,decide_false]
     by_cases c3:0≤hU l name
     ·simp only [c3,kk,oo,if_true,List.map_nil]
     ·by_cases c4:8≤l.length
      ·simp only [c3,c4,show (8:Int)≤(l.length:Int) by omega,kk,oo,if_true,if_false,List.map_nil]
      ·simp only [c3,c4,show ¬ (8:Int)≤(l.length:Int) by omega,kk,if_false]
       have hj:∀ k:Nat,k=kZ (fun s:Ser=>fS s.name name) l→aAb C (fun v0 S0=>bY S0 v0=Except.ok (.tup [.imm ((fB l (kZ (fun s:Ser=>fS s.name name) l) ⟨name,1,limit,false⟩).map Ser.enc),.int .i64 0])) (.imm (l.map Ser.enc)) (.str name) (.int .i64 limit) (.int .i64 (k:Int)) ⟨0,.nil⟩:=by
        intro k hk
        simp only [aAb]
        refine bB3 l (by omega) oU fun v S1 x1 own=>?_
        have w1:=x1.wf oU
        have hkl:k≤l.length:=by rw [hk];exact vY _ _
        obtain ⟨v2,S2,q2,w2,own2⟩:=bFa bOp (by decide) own w1 (aNi ⟨name,1,limit,false⟩) (by simp;omega) (by simp [eG];omega) (i:=k) (by simpa using hkl)
        simp only [Ser.enc] at q2
        simp only [kk,aQ1]
        rw [aNh bFc q2]
        rw [←lS] at own2
        simp only [oo,own2.frz (dM (fun _=>rfl) _),hk]
       refine aZ l (step:=eM (fun s:Ser=>fS s.name name)) (fin:=id) (fun i k vs S=>k=i∧vs=[.int .i64 (i:Int)]∧S=⟨0,.nil⟩) (fun r=>r=kZ (fun s:Ser=>fS s.name name) l) ?_ ?_ ⟨rfl,rfl,rfl⟩ rfl
       ·rintro i s k vs S hi ⟨rfl,rfl,rfl⟩ aQ H
        have hil:=(List.getElem?_eq_some_iff.1 hi).1
        simp only [eM] at H
        simp only [aFg,kk,dK hi,zF hi,Ser.enc,mO (show k<1000000000 by omega)]
        cases c:fS s.name name<;>simp only [c,kk,if_true,if_false,Bool.false_eq_true] at H ⊢
        ·exact hj _ H
        ·exact H _ _ ⟨rfl,rfl⟩
       ·rintro k vs S ⟨rfl,rfl,rfl⟩ aQ H
        simp only [aFg,kk,Int.lt_irrefl]
        exact hj _ (by simpa using H)
  ·have hn:eL name=false:=by simpa using hn
   simp only [hn,kk,oo,if_true,List.map_nil]
 ·have hr:mN l=false:=by simpa using hr
  simp only [hr,kk,oo,eW,if_true,List.map_nil]
theorem bOy (l:List Ser) (name:List UInt8) (S:St) (K:KW):C 177 [.imm (l.map Ser.enc),.str name] S K=K (.tup [.imm ((oI l name).1.map Ser.enc),.int .i64 (oI l name).2]) S:=by
 refine (bM0 rfl ?_).eq S K
 simp only [aTp,kk,bFj,fY,oI]
 by_cases h0:(hZ l name).2=0
 ·obtain ⟨hr,i,s,h1,_,h2,h3,_⟩:=vZ h0
  have hb:=oH hr
  have hil:=(List.getElem?_eq_some_iff.1 h2).1
  have e1:(hZ l name).1=(i:Int):=by rw [h1]
  simp only [h0,kk,not_true_eq_false,if_false]
  refine bB3 l (by omega) oU fun v S1 x1 own=>?_
  obtain ⟨a,ver,_,_,_,e4,_,set1⟩:=own.setK x1 oU (i:=i) (cs:=s.enc) (by simp [h2]) .i64
  obtain ⟨S2,st1,x2,n2,own2,keep2,w2⟩:=set1 3 1 (.bool true) rfl rfl (by decide)
  have hfin:(l.map Ser.enc).set i (splice s.enc 3 [.bool true])=(l.set i { s with shut:=true }).map Ser.enc:=by rw [List.map_set];rfl
  simp only [V.cells] at own2
  rw [hfin] at own2
  simp only [e1,e4,kk,st1,oo,own2.frz (dM (fun _=>rfl) _),Int.toNat_natCast,h2]
 ·simp only [h0,kk,oo,if_true,not_false_eq_true,List.map_nil]
theorem bOz (l:List Ser) (name:List UInt8) (S:St) (K:KW):C 271 [.imm (l.map Ser.enc),.str name] S K=K (.tup [.imm ((dB l name).1.map Ser.enc),.int .i64 (dB l name).2.1,.int .i64 (dB l name).2.2]) S:=by
 refine (bNv rfl ?_).eq S K
 simp only [aVi,kk,bFj,fY,dB]
 by_cases h0:(hZ l name).2=0
 ·obtain ⟨hr,i,s,h1,_,h2,h3,_⟩:=vZ h0
  have hb:=oH hr
  have hil:=(List.getElem?_eq_some_iff.1 h2).1
  have e1:(hZ l name).1=(i:Int):=by rw [h1]
  simp only [h0,kk,not_true_eq_false,if_false,e1,zF h2,Ser.enc,Int.toNat_natCast,h2]
  by_cases c:s.limit<s.next
  ·simp only [c,kk,oo,if_true,List.map_nil]
  ·simp only [c,kk,if_false]
   refine bB3 l (by omega) oU fun v S1 x1 own=>?_
   obtain ⟨a,ver,_,_,_,e4,hat,set1⟩:=own.setK x1 oU (i:=i) (cs:=s.enc) (by simp [h2]) .i64
   obtain ⟨S2,st1,x2,n2,own2,keep2,w2⟩:=set1 1 1 (.int .i64 (wr .i64 (s.next+1))) rfl rfl (by decide)
   have hld:=hat.load none 1
   have hfin:(l.map Ser.enc).set i (splice s.enc 1 [.int .i64 (wr .i64 (s.next+1))])=(l.set i { s with next:=wr .i64 (s.next+1) }).map Ser.enc:=by rw [List.map_set];rfl
   simp only [V.cells] at own2
   rw [hfin] at own2
   simp only [adv,kk] at hld
   simp only [e4,kk,hld,Ser.enc,st1,oo,own2.frz (dM (fun _=>rfl) _)]
 ·simp only [h0,kk,oo,if_true,not_false_eq_true,List.map_nil]
theorem zne {S:St} (h:0<S.next):((0:Nat)=S.next)=False:=by simp;omega
theorem bP0 (l:List Rate) (cat:List UInt8) (d:Date) (S:St) (K:KW):C 278 [.imm (l.map Rate.enc),.str cat,.agg [.int .i64 d.y,.int .i64 d.m,.int .i64 d.d]] S K=K (.tup [.int .i64 (iA l cat d).1,.bool (iA l cat d).2]) S:=by
 refine (bNx rfl ?_).eq S K
 simp only [aVk,kk,g85,zX,iA]
 by_cases hr:fT l=true
 ·have hb:=uA hr
  simp only [hr,kk,Bool.true_eq_false,if_false]
  cases hd:d.right
  ·simp only [hd,kk,oo,if_true]
  simp only [hd,kk,Bool.true_eq_false,if_false]
  refine aZ l (step:=iY cat d) (fin:=id) (fun i s vs S=>vs=[.int .i64 s.1,.bool s.2,.int .i64 (i:Int)]∧aI S 0 0=.ok (3,[d.enc])∧0<S.next) (fun r=>r=aS (iY cat d) id l (0,false)) ?_ ?_ (s:=(0,false)) ⟨rfl,by simp only [kk];rfl,Nat.zero_lt_one⟩ rfl
  ·rintro i r ⟨bp,ok⟩ vs S hi ⟨rfl,hg,h0⟩ aQ H
   have hil:=(List.getElem?_eq_some_iff.1 hi).1
   simp only [iY] at H
   simp only [aG2,aG1,kk,dK hi,aG8 hi,Rate.enc,mO (show i<1000000000 by omega),iL,zne h0,gm,hg,Date.enc,aPx]
   have hg':∀ b b':Blk,aI ⟨S.next+1,(S.heap.put S.next b).put S.next b'⟩ 0 0=.ok (3,[d.enc]):=fun b b'=>by simp only [iL,kk,zne h0,gm,hg]
   cases c1:(r.cat == cat)<;>simp only [c1,kk,Bool.false_eq_true,false_and,if_false,true_and] at H ⊢
   ·exact H _ _ ⟨rfl,hg' _ _,Nat.succ_pos _⟩
   ·cases c2:d.before r.day<;>simp only [c2,kk,if_true,if_false,Bool.true_eq_false] at H ⊢<;>exact H _ _ ⟨rfl,hg' _ _,Nat.succ_pos _⟩
  ·rintro ⟨bp,ok⟩ vs S ⟨rfl,hg,h0⟩ aQ H
   have H:(bp,ok)=aS (iY cat d) id l (0,false):=H
   simp only [aG2,kk,Int.lt_irrefl,oo,←H]
 ·have hr:fT l=false:=by simpa using hr
  simp only [hr,kk,oo,if_true]
theorem bP1:apT prog 24=some (5,48):=by kernel_rfl
theorem bFk:tX 237=some (.spec ((Sp.ins 24).run prog)):=by kernel_rfl
theorem aQ3 (x:Rate):x.enc.length=5∧aM x.enc=true:=⟨rfl,rfl⟩
theorem Date.ext_iff (a b:Date):(a=b)=((a.y=b.y∧a.m=b.m)∧a.d=b.d):=by
 obtain ⟨_,_,_⟩:=a;obtain ⟨_,_,_⟩:=b;simp [and_assoc]
theorem aX2 {P:Program} {T:TypeId} {α:Type} {enc:α→List V} {n b:Nat} (hT:apT P T=some (n,b)) (hn:1<n) (hl:∀ x,(enc x).length=n∧aM (enc x)=true) (l:List α) {S:St} (w:WF S) {ka kb m:Nat} (hk:S.next≤ka) (hm:ka<m) (hkb:S.next≤kb) (hmb:kb<m) (hne:ka≠kb)
  (h1:(l.length+1)*b≤35184372088832) (h2:l.length+1<eG) (x:α) {i:Nat} (hi:i≤l.length):
  ∃ v S1 v' S',cQ n b .nils (.imm (l.map enc)) (some ka) ⟨m,S.heap⟩=.ok (v,S1)∧(∀ y,y<S.next→S1.heap.get y=S.heap.get y)∧fX P T v (.int .i64 (i:Int)) (.sl kb 0 n 0 1) ⟨S1.next,S1.heap.put kb (.row 0 n [enc x])⟩=.ok (v',S')∧Own E0 S' n v' ((fB l i x).map enc):=by
 have hx:Ext S ⟨m,S.heap⟩:=⟨fun a b h=>h,by show S.next≤m;omega,fun w a b h=>by have:=w a b h;show a<m;omega⟩
 have hnone:∀ k,S.next≤k→S.heap.get k=none:=by
  intro k hk
  cases hq:S.heap.get k with
  | none=>rfl
  | some b=>have:=w k b hq;omega
 have hc:∀ cs,cs∈l.map enc→cs.length=n∧aM cs=true:=fun cs hc=>by obtain ⟨x,_,rfl⟩:=List.mem_map.1 hc;exact hl x
 obtain ⟨a1,a2⟩:=dG hc
 have hwm:WF ⟨m,S.heap⟩:=hx.wf w
 have key:∃ v S1,cQ n b .nils (.imm (l.map enc)) (some ka) ⟨m,S.heap⟩=.ok (v,S1)∧WF S1∧S1.next=m∧(∀ y,y<S.next→S1.heap.get y=S.heap.get y)∧S1.heap.get kb=none∧(∀ a ver k,v=.sl a ver n 0 k→a=ka)∧Own E0 S1 n v (l.map enc):=by
  cases l with
  | nil=>exact ⟨.nils,⟨m,S.heap⟩,rfl,hwm,rfl,fun _ _=>rfl,hnone kb hkb,(fun _ _ _ h=>by cases h),Own.nil _ _ _⟩
  | cons y l=>
   refine ⟨.sl ka 0 n 0 (l.length+1),⟨m,S.heap.put ka (.row 0 n ((y::l).map enc))⟩,?_,hJ hwm hm (Nat.le_refl _),rfl,fun z hz=>Tr.get_put_neB _ _ _ _ trivial (by omega),?_,fun _ _ _ h=>(by cases h;rfl),⟨.inr ⟨ka,0,[],by simp,Nat.zero_le _,hm,?_⟩,hc⟩⟩
   ·simp only [cQ,bQ]
    rw [if_pos ⟨a1,a2⟩]
    simp only [List.map_cons,List.length_cons,List.length_map,lM] at h1 h2 ⊢
    have hb2:(l.length+1)*b≤(l.length+1+1)*b:=Nat.mul_le_mul_right _ (by omega)
    rw [if_pos ⟨by omega,by omega⟩]
   ·rw [Tr.get_put_neB _ _ _ _ trivial (Ne.symm hne)];exact hnone kb hkb
   ·rw [List.append_nil];exact Tr.get_put_sameB _ _ _ trivial
 obtain ⟨v,S1,q1,w1,n1,q2,q3,q4,own⟩:=key
 have x1:Ext S1 ⟨S1.next,S1.heap.put kb (.row 0 n [enc x])⟩:=⟨fun a c hc=>by
  show (S1.heap.put kb _).get a=some c
  rw [Tr.get_put_neB _ _ _ _ trivial (fun e=>by rw [e,q3] at hc;cases hc)];exact hc,Nat.le_refl _,fun w=>hJ w (by omega) (Nat.le_refl _)⟩
 obtain ⟨v',S',p1,_,p3⟩:=(own.ext x1).insert hT hn (aCk (x1.wf w1)) oU (bx:=kb) (c:=enc x) (aO _ _ _ _ _ _) (fun a ver k hv=>by rw [q4 a ver k hv];exact hne) (hl x) (by simpa using h1) (by simpa using h2) (i:=i) (by simpa using hi)
 rw [←lS] at p3
 exact ⟨v,S1,v',S',q1,q2,p1,p3⟩
theorem bP2 (l:List Rate) (r:Rate) (S:St) (K:KW):C 178 [.imm (l.map Rate.enc),.agg [.str r.cat,.int .i64 r.day.y,.int .i64 r.day.m,.int .i64 r.day.d,.int .i64 r.bp]] S K=K (.tup [.imm ((gP l r).1.map Rate.enc),.int .i64 (gP l r).2]) S:=by
 refine (bM2 rfl ?_).eq S K
 simp only [aTr,kk,g85,gP]
 by_cases hr:fT l=true
 ·have hb:=uA hr
  simp only [hr,kk,Bool.true_eq_false,if_false,bF3]
  by_cases h0:tY r=0
  ·simp only [h0,kk,not_true_eq_false,if_false]
   refine aZ l (step:=kE r) (fin:=some) (fun i k vs S=>vs=[.nils,.int .i64 0,.int .i64 (k:Int),.int .i64 (i:Int)]∧aI S 0 0=.ok (5,[r.enc])∧0<S.next∧WF S∧k≤i) (fun q=>q=aS (kE r) some l 0) ?_ ?_ (s:=0) ⟨rfl,by simp only [kk];rfl,Nat.zero_lt_one,hJ oU (by decide) (by decide),Nat.le_refl _⟩ rfl
   ·rintro i x k vs S hi ⟨rfl,hg,hp,w,hki⟩ aQ H
    have hil:=(List.getElem?_eq_some_iff.1 hi).1
    simp only [kE,Date.ext_iff,kk] at H
    have hg':∀ b b':Blk,aI ⟨S.next+1,(S.heap.put S.next b).put S.next b'⟩ 0 0=.ok (5,[r.enc]):=fun b b'=>by simp only [iL,kk,zne hp,gm,hg]
    have hw':∀ b b':Blk,WF ⟨S.next+1,(S.heap.put S.next b).put S.next b'⟩:=fun b b'=>hJ (hJ w (Nat.lt_succ_self _) (Nat.le_succ _)) (Nat.lt_succ_self _) (Nat.le_refl _)
    simp only [aFj,aFi,kk,dK hi,aG8 hi,Rate.enc,mO (show i<1000000000 by omega),mO (show k<1000000000 by omega),iL,zne hp,gm,hg,bF4]
    cases c1:(x.cat == r.cat)<;>simp only [c1,kk,Bool.false_eq_true,false_and,if_false,true_and,Bool.and_eq_true,decide_eq_true_eq] at H ⊢
    ·cases c3:fH x r<;>simp only [c3,kk,if_true,if_false,Bool.false_eq_true] at H ⊢<;>exact H _ _ ⟨rfl,hg' _ _,Nat.succ_pos _,hw' _ _,by omega⟩
    ·by_cases c2:(x.day.y=r.day.y∧x.day.m=r.day.m)∧x.day.d=r.day.d<;>simp only [c2,kk,if_true,if_false] at H ⊢
     ·have H':aS (kE r) some l 0=none:=H.symm
      simp only [oo,H',List.map_nil]
     ·cases c3:fH x r<;>simp only [c3,kk,if_true,if_false,Bool.false_eq_true] at H ⊢<;>exact H _ _ ⟨rfl,hg' _ _,Nat.succ_pos _,hw' _ _,by omega⟩
   ·rintro k vs S ⟨rfl,hg,hp,w,hki⟩ aQ H
    have H':aS (kE r) some l 0=some k:=H.symm
    simp only [aFj,kk,Int.lt_irrefl,H']
    by_cases c:24≤l.length
    ·simp only [c,show (24:Int)≤(l.length:Int) by omega,kk,oo,if_true,List.map_nil]
    ·obtain ⟨v,S1,v',S',q1,q2,q3,own⟩:=aX2 bP1 (by decide) aQ3 l w (ka:=S.next+1) (kb:=S.next+4) (m:=S.next+8) (by omega) (by omega) (by omega) (by omega) (by omega) (by omega) (by unfold eG;omega) r hki
     have hg1:aI S1 0 0=.ok (5,[r.enc]):=aX hg (q2 0 hp)
     simp only [Rate.enc] at hg hg1 q3
     simp only [c,show ¬ (24:Int)≤(l.length:Int) by omega,kk,gm,hg,q1,hg1,bF9,if_false]
     rw [aNh bFk q3]
     simp only [oo,own.frz (dM (fun _=>rfl) _),c,if_false]
  ·simp only [h0,kk,oo,if_true,not_false_eq_true,List.map_nil]
 ·have hr:fT l=false:=by simpa using hr
  simp only [hr,kk,oo,if_true,List.map_nil]
end Go.Proofs.YtoaibmbldmckaaaGreat
end
section
namespace Go.AM
theorem aX3 (n:Nat) (z:List V) (parts:List (Nat×V)) (fr:Option Nat) (S:St) (hn:n≤1000):aP n z 2 parts fr S=(match sI n [z,z] parts with
  | .error e=>.error e
  | .ok elems=>match aJ fr S (.row 0 n elems) with
   | .error e=>.error e
   | .ok (a,S')=>.ok (.sl a 0 n 0 2,S')):=by
 unfold aP
 rw [if_pos (by omega)]
 rfl
theorem bFl (z:List V) (parts:List (Nat×V)) (fr:Option Nat) (S:St):type_of% (aX3 2 z parts fr S (by decide)):=aX3 2 z parts fr S (by decide)
theorem Own.bump {S0 S:St} {n:Nat} {v:V} {es:List (List V)} (h:Own S0 S n v es) (c:Nat):Own S0 ⟨S.next+c,S.heap⟩ n v es:=h.ext ((Ext.refl S).bump c)
theorem aLj {n b:Nat} {S:St} {v:V} {es:List (List V)} (h:Own E0 S n v es) (w:WF S) {cs:List (List V)} (hc:∀ c,c∈cs→c.length=n∧aM c=true) (hne:cs≠[]) (h1:(es.length+cs.length)*b≤35184372088832) (h2:es.length+cs.length<eG):
  ∃ v' S',cQ n b v (.sl S.next 0 n 0 cs.length) none ⟨S.next+1,S.heap.put S.next (.row 0 n cs)⟩=.ok (v',S')∧Own E0 S' n v' (es++cs)∧WF S'∧∀ y,y<S.next→(∀ a ver m,v=.sl a ver n 0 m→y≠a)→S'.heap.get y=S.heap.get y:=by
 have x:Ext S ⟨S.next+1,S.heap.put S.next (.row 0 n cs)⟩:=Ext.new w _
 have hu:bQ ⟨S.next+1,S.heap.put S.next (.row 0 n cs)⟩ (.sl S.next 0 n 0 cs.length)=.ok cs:=by
  have hb:Nat.ble (0+cs.length) cs.length=true:=Nat.ble_eq_true_of_le (by omega)
  simp only [bQ,aO,hb,cond_true,List.drop_zero,List.take_length]
 obtain ⟨v',S',q1,q2,_,q3,q4⟩:=(h.ext x).pushK (b:=b) (aCk (x.wf w)) oU hu hc hne h1 h2
 refine ⟨v',S',q1,q3,q2.wf oU,fun y hy hya=>?_⟩
 rw [q4 y (by show y<S.next+1;omega) hya]
 exact Tr.get_put_neB _ _ _ _ trivial (by omega)
end Go.AM
namespace Go.Proofs.YtoaibmbldmckaaaGreat
open Go.AM Tryz
set_option linter.unusedVariables false
set_option linter.unusedSimpArgs false
set_option maxRecDepth 100000
def Total.enc (t:Total):List V:=[.int .i64 t.net,.int .i64 t.tax,.int .i64 t.gross,.imm (t.parts.map Part.enc)]
def aNj (t:Total):Prop:=t.parts.length≤12∧∀ q∈t.parts,q.cat.length≤1000000
theorem aLk {P:Program} {t:TypeId} {a b:List UInt8} (h:a.length+b.length<2000000):aH P .add t (.str a) (.str b)=.ok (.str (a++b)):=by
 have:Nat.blt (a.length+b.length) eG=true:=by rw [Nat.blt_eq];unfold eG;omega
 simp only [aH,yG,this,cond_true]
theorem aNk (x:Bal):x.enc.length=2∧aM x.enc=true:=⟨rfl,rfl⟩
theorem aHy (x:Part):x.enc.length=4∧aM x.enc=true:=⟨rfl,rfl⟩
theorem bFm (t:Total) (hf:aNj t) (S:St) (K:KW):C 157 [.agg [.int .i64 t.net,.int .i64 t.tax,.int .i64 t.gross,.imm (t.parts.map Part.enc)]] S K=K (.tup [.imm ((eH t).1.map Bal.enc),.int .i64 (eH t).2]) S:=by
 refine (bL9 rfl ?_).eq S K
 simp only [aSz,kk,bF8]
 have hpl:=hf.1
 refine aZ t.parts (step:=sB) (fin:=fun l=>(l,0)) (fun i s vs S=>∃ v,vs=[.nils,.int .i64 0,v,.int .i64 (i:Int)]∧Own E0 S 2 v (s.map Bal.enc)∧WF S∧s.length=1+2*i) (fun r=>r=eH t) ?_ ?_ (s:=[⟨[111,119,101,100],t.gross⟩]) ⟨_,rfl,⟨.inr ⟨1,0,[],rfl,Nat.zero_le _,Nat.lt_succ_self 1,rfl⟩,?_⟩,hJ (hJ (m:=1) oU (by decide) (by decide)) (by decide) (by decide),rfl⟩ rfl
 ·rintro i p s vs S hi ⟨v,rfl,own,w,hsl⟩ aQ H
  have hil:=(List.getElem?_eq_some_iff.1 hi).1
  have hcat:=hf.2 p (List.mem_of_getElem? hi)
  simp only [sB,kk] at H
  have e1:aNa.length+p.cat.length<2000000:=by simp only [aNa,List.length_cons,List.length_nil];omega
  have e2:aNb.length+p.cat.length<2000000:=by simp only [aNb,List.length_cons,List.length_nil];omega
  have c1:=aLk (P:=prog) (t:=9) e1
  have c2:=aLk (P:=prog) (t:=9) e2
  simp only [aNa,aNb] at c1 c2
  simp only [aF7,kk,dK hi,uE hi,Part.enc,mO (show i<1000000000 by omega),bAz,fY,iL,c1,c2,bFl]
  by_cases h1:(jS 0 p.net).2=0
  ·by_cases h2:(jS 0 p.tax).2=0
   ·simp only [h1,h2,kk,not_true_eq_false,if_false] at H ⊢
    have w1:WF ⟨S.next+1,(S.heap.put S.next (.row 0 4 [[V.str [],.int .i64 0,.int .i64 0,.int .i64 0]])).put S.next (.row 0 4 [p.enc])⟩:=hJ (hJ w (Nat.lt_succ_self _) (Nat.le_succ _)) (Nat.lt_succ_self _) (Nat.le_refl _)
    have x1:Ext S ⟨S.next+1,(S.heap.put S.next (.row 0 4 [[V.str [],.int .i64 0,.int .i64 0,.int .i64 0]])).put S.next (.row 0 4 [p.enc])⟩:=Ext.var w 4 _ _
    obtain ⟨v',S',q1,q2,q3,_⟩:=aLj (b:=24) (own.ext x1) w1 (cs:=[Bal.enc ⟨aNa++p.cat,(jS 0 p.net).1⟩,Bal.enc ⟨aNb++p.cat,(jS 0 p.tax).1⟩]) (fun c hc=>by
     rcases List.mem_cons.1 hc with rfl | hc
     ·exact aNk _
     ·rcases List.mem_cons.1 hc with rfl | hc
      ·exact aNk _
      ·cases hc) (by simp) (by simp;omega) (by simp [eG];omega)
    simp only [Part.enc,Bal.enc,aNa,aNb,kk] at q1
    simp only [q1,kk]
    exact H _ _ ⟨_,rfl,by rw [List.map_append];exact q2,q3,by rw [List.length_append,hsl];simp;omega⟩
   ·simp only [h1,h2,kk,not_true_eq_false,not_false_eq_true,if_false,if_true] at H ⊢
    simp only [oo,←H,List.map_nil]
  ·simp only [h1,kk,not_false_eq_true,if_true] at H ⊢
   simp only [oo,←H,List.map_nil]
 ·rintro s vs S ⟨v,rfl,own,w,_⟩ aQ H
  have H':eH t=(s,0):=H.symm
  simp only [aF7,kk,Int.lt_irrefl,oo,own.frz (dM (fun _=>rfl) _),H']
 ·intro c hc;simp at hc;subst hc;exact ⟨rfl,rfl⟩
theorem bFn (l:List Bal) (hb:l.length<1000000):Fv 220 [.imm (l.map Bal.enc)] (.bool (aDf l)):=by
 refine bMu rfl ?_
 simp only [aUh]
 refine aZ (l.drop 1) (step:=aBl) (fin:=fun _=>true) (fun j s vs S=>s=l[j]?∧vs=[.bool false,.int .i64 ((j+1:Nat):Int)]) (fun r=>V.bool r=.bool (aDf l)) ?_ ?_ (s:=l[0]?) ⟨rfl,rfl⟩ rfl
 ·rintro j b s vs S hi ⟨rfl,rfl⟩ aQ H
  rw [List.getElem?_drop,Nat.add_comm] at hi
  have hil:=(List.getElem?_eq_some_iff.1 hi).1
  have hj:l[j]?=some l[j]:=List.getElem?_eq_getElem (by omega)
  simp only [hj,aBl,hi] at H
  simp only [aFo,kk,dK hi,aDk hi,aDk hj,Bal.enc,wrm (show j+1<1000000000 by omega),mO (show j+1<1000000000 by omega)]
  cases c:fS l[j].acc b.acc<;>simp only [c,kk,if_true,if_false,Bool.false_eq_true] at H ⊢
  ·exact H
  ·exact H _ _ rfl
 ·rintro s vs S ⟨rfl,rfl⟩ aQ H
  have hn:¬ (((l.drop 1).length+1:Nat):Int)<(l.length:Int):=by rw [List.length_drop];omega
  simp only [aFo,kk,hn]
  exact H
theorem bP3 (l:List Bal) (hb:l.length<1000000) (S:St) (K:KW):C 220 [.imm (l.map Bal.enc)] S K=K (.bool (aDf l)) S:=(bFn l hb).eq S K
theorem bP4:apT prog 27=some (2,24):=by kernel_rfl
theorem bFo:tX 221=some (.spec ((Sp.ins 27).run prog)):=by kernel_rfl
theorem bB4 (book l:List Bal) (hbb:book.length+l.length<1000000) (S:St) (K:KW):C 158 [.imm (book.map Bal.enc),.imm (l.map Bal.enc)] S K=K (.tup [.imm ((cY book l).1.map Bal.enc),.int .i64 (cY book l).2]) S:=by
 refine (bLb rfl ?_).eq S K
 simp only [aT1,kk,bP3 book (show book.length<1000000 by omega),cY]
 by_cases hr:aDf book=true
 ·simp only [hr,kk,Bool.true_eq_false,if_false]
  obtain ⟨v0,S0,q0,x0,own0⟩:=aQ0 (b:=24) aNk book oU (by omega) (by unfold eG;omega)
  simp only [q0,kk]
  refine aZ l (step:=dT) (fin:=fun l=>(l,0)) (fun i s vs S=>∃ v,vs=[.nils,.int .i64 0,v,.int .i64 (i:Int)]∧Own E0 S 2 v (s.map Bal.enc)∧WF S∧s.length≤book.length+i) (fun r=>r=aS dT (fun l=>(l,0)) l book) ?_ ?_ (s:=book) ⟨_,rfl,own0,x0.wf oU,Nat.le_refl _⟩ rfl
  ·rintro i x s vs S hi ⟨v,rfl,own,w,hsl⟩ aQ H
   have hil:=(List.getElem?_eq_some_iff.1 hi).1
   rw [pK] at H
   simp only [aF9,kk,dK hi,aDk hi,Bal.enc]
   obtain ⟨S1,hS1⟩:∃ S1:St,S1=⟨S.next+1,(S.heap.put S.next (.row 0 2 [[V.str [],.int .i64 0]])).put S.next (.row 0 2 [[.str x.acc,.int .i64 x.amount]])⟩:=⟨_,rfl⟩
   have x1:Ext S S1:=by rw [hS1];exact Ext.var w 2 _ _
   have w1:=x1.wf w
   have hg1:aI S1 S.next 0=.ok (2,[x.enc]):=by rw [hS1];exact aO _ _ _ _ _ _
   have own1:=own.ext x1
   have hlt1:S.next<S1.next:=by rw [hS1];exact Nat.lt_succ_self _
   rw [←hS1]
   have hva:∀ a ver m,v=.sl a ver 2 0 m→S.next≠a:=by
    intro a ver m hv
    rcases own.is with ⟨rfl,_⟩ | ⟨a',ver',tl,rfl,_,hlt,_⟩
    ·cases hv
    ·cases hv;omega
   have hlen:s.length<1000000:=by omega
   have hple:=qW s x.acc
   have hj1:∀ (v':V) (S':St),Own E0 S' 2 v' ((eE s x.acc).map Bal.enc)→WF S'→aI S' S.next 0=.ok (2,[x.enc])→aA8 C (fun v0 S0=>bY S0 v0=.ok (.tup [.imm ((aS dT (fun l=>(l,0)) l book).1.map Bal.enc),.int .i64 (aS dT (fun l=>(l,0)) l book).2])) aQ .nils (.int .i64 0) v' (.ptr S.next 0 0 0) (.int .i64 (cD s x.acc:Int)) (.imm (l.map Bal.enc)) (.int .i64 (l.length:Int)) (.int .i64 (i:Int)) S':=by
    intro v' S' own' w' hg'
    obtain ⟨b,hb⟩:=yZ s x.acc
    obtain ⟨a,ver,_,_,_,e4,hat,set1⟩:=(own'.bump 13).setK (aCk (w'.bump 13)) oU (i:=cD s x.acc) (cs:=b.enc) (by simp [hb]) .i64
    obtain ⟨S2,st1,x2,n2,own2,keep2,w2⟩:=set1 1 1 (.int .i64 (cN b.amount x.amount).1) rfl rfl (by decide)
    have hld:=hat.load none 1
    simp only [adv,kk,Bal.enc] at hld
    have hfin:((eE s x.acc).map Bal.enc).set (cD s x.acc) (splice b.enc 1 [.int .i64 (cN b.amount x.amount).1])=((eE s x.acc).set (cD s x.acc) ⟨b.acc,(cN b.amount x.amount).1⟩).map Bal.enc:=by rw [List.map_set];rfl
    simp only [V.cells] at own2
    rw [hfin] at own2
    simp only [hb,Option.map_some,Option.getD_some,kk] at H
    have hg2:aI ⟨S'.next+13,S'.heap⟩ S.next 0=.ok (2,[x.enc]):=hg'
    simp only [Bal.enc] at hg2
    simp only [aA8,e4,kk,hld,hg2,aPy,fY,mO (show i<1000000000 by omega),st1]
    by_cases h0:(cN b.amount x.amount).2=0
    ·simp only [h0,kk,not_true_eq_false,if_false] at H ⊢
     exact H _ _ ⟨_,rfl,own2,w2 (w'.bump 13),by rw [List.length_set];have:=zA s x.acc;omega⟩
    ·simp only [h0,kk,not_false_eq_true,if_true] at H ⊢
     simp only [oo,←H,List.map_nil]
   have hj2:∀ (S':St),Own E0 S' 2 v (s.map Bal.enc)→WF S'→aI S' S.next 0=.ok (2,[x.enc])→S.next<S'.next→vS C (fun v0 S0=>bY S0 v0=.ok (.tup [.imm ((aS dT (fun l=>(l,0)) l book).1.map Bal.enc),.int .i64 (aS dT (fun l=>(l,0)) l book).2])) aQ .nils (.int .i64 0) v (.ptr S.next 0 0 0) (.int .i64 (cD s x.acc:Int)) (.imm (l.map Bal.enc)) (.int .i64 (l.length:Int)) (.int .i64 (i:Int)) (.bool (mY s x.acc)) S':=by
    intro S' own' w' hg' hlt'
    cases hm:mY s x.acc
    ·simp only [vS,kk]
     exact hj1 v S' (by rw [show eE s x.acc=s by simp [eE,hm]];exact own') w' hg'
    ·obtain ⟨v2,S2,q1,w2,own2,keep2⟩:=aXs bP4 (by decide) own' w' (aNk ⟨x.acc,0⟩) (by simp;omega) (by simp [eG];omega) (i:=cD s x.acc) (by simpa using hple)
     rw [←lS] at own2
     have hg2:=aX hg' (keep2 S.next hlt' hva)
     simp only [Bal.enc] at hg' q1
     simp only [vS,kk,hg',bF8]
     rw [aNh bFo q1]
     exact hj1 v2 S2 (by rw [show eE s x.acc=fB s (cD s x.acc) ⟨x.acc,0⟩ by simp [eE,hm]];exact own2) w2 hg2
   have hj0:∀ (S':St),Own E0 S' 2 v (s.map Bal.enc)→WF S'→aI S' S.next 0=.ok (2,[x.enc])→S.next<S'.next→aA9 C (fun v0 S0=>bY S0 v0=.ok (.tup [.imm ((aS dT (fun l=>(l,0)) l book).1.map Bal.enc),.int .i64 (aS dT (fun l=>(l,0)) l book).2])) aQ .nils (.int .i64 0) v (.ptr S.next 0 0 0) (.int .i64 (cD s x.acc:Int)) (.imm (l.map Bal.enc)) (.int .i64 (l.length:Int)) (.int .i64 (i:Int)) S':=by
    intro S' own' w' hg' hlt'
    have h2:=hj2 ⟨S'.next+14,S'.heap⟩ (own'.bump 14) (w'.bump 14) hg' (by show S.next<S'.next+14;omega)
    have hgb:aI ⟨S'.next+14,S'.heap⟩ S.next 0=.ok (2,[x.enc]):=hg'
    simp only [Bal.enc] at hgb
    simp only [aA9,own'.sl.lenI,kk]
    by_cases hk:cD s x.acc=s.length
    ·have hm:mY s x.acc=true:=by unfold mY;rw [hk,List.getElem?_eq_none (Nat.le_refl _)]
     rw [hm] at h2
     simp only [hk,kk,eq_self,if_true]
     rw [hk] at h2
     exact h2
    ·have hlt:cD s x.acc<s.length:=by omega
     have hb:s[cD s x.acc]?=some s[cD s x.acc]:=List.getElem?_eq_getElem hlt
     have hm:mY s x.acc=!((s[cD s x.acc]).acc == x.acc):=by unfold mY;rw [hb]
     rw [hm] at h2
     obtain ⟨p,hp,hat,_,_⟩:=(own'.bump 14).sl.elem hb
     have hld:=hat.load none 0
     simp only [Bal.enc,kk] at hld
     simp only [show ¬ ((cD s x.acc:Nat):Int)=(s.length:Int) by omega,kk,if_false,hp,hat.advW,hld,hgb]
     exact h2
   refine aZ s (step:=eM (fun b:Bal=>fS b.acc x.acc)) (fin:=id) (fun k n vs S'=>n=k∧vs=[.int .i64 (k:Int)]∧S'.heap=S1.heap∧S1.next≤S'.next) (fun r=>r=cD s x.acc) ?_ ?_ ⟨rfl,rfl,rfl,Nat.le_refl _⟩ rfl
   ·rintro k b n vs S' hk ⟨rfl,rfl,hh,hn⟩ again' H'
    have hkl:=(List.getElem?_eq_some_iff.1 hk).1
    have hown:∀ c,Own E0 ⟨S'.next+c,S'.heap⟩ 2 v (s.map Bal.enc):=fun c=>own1.same (by show S1.next≤S'.next+c;omega) (fun a _=>by show S'.heap.get a=_;rw [hh])
    have hw:∀ c,WF ⟨S'.next+c,S'.heap⟩:=fun c a b hb=>by
     have hb:S'.heap.get a=some b:=hb
     rw [hh] at hb;have:=w1 a b hb;show a<S'.next+c;omega
    have hgr:∀ c,aI ⟨S'.next+c,S'.heap⟩ S.next 0=.ok (2,[x.enc]):=fun c=>by
     show aI ⟨S'.next,S'.heap⟩ S.next 0=_
     rw [hh];exact hg1
    have hgb:=hgr 14
    simp only [Bal.enc] at hgb
    obtain ⟨p,hp,hat,_,_⟩:=(hown 14).sl.elem hk
    have hld:=hat.load none 0
    simp only [Bal.enc,kk] at hld
    simp only [eM] at H'
    simp only [aF8,kk,own1.sl.lenI,dK hk,hp,hat.advW,hld,hgb,mO (show n<1000000000 by omega)]
    cases c:fS b.acc x.acc<;>simp only [c,kk,if_true,if_false,Bool.false_eq_true] at H' ⊢
    ·have:=hj0 ⟨S'.next+14,S'.heap⟩ (hown 14) (hw 14) (hgr 14) (by show S.next<S'.next+14;omega)
     rw [←H'] at this
     exact this
    ·exact H' _ _ ⟨rfl,hh,by show S1.next≤S'.next+14;omega⟩
   ·rintro n vs S' ⟨rfl,rfl,hh,hn⟩ again' H'
    have hown:∀ c,Own E0 ⟨S'.next+c,S'.heap⟩ 2 v (s.map Bal.enc):=fun c=>own1.same (by show S1.next≤S'.next+c;omega) (fun a _=>by show S'.heap.get a=_;rw [hh])
    have hw:∀ c,WF ⟨S'.next+c,S'.heap⟩:=fun c a b hb=>by
     have hb:S'.heap.get a=some b:=hb
     rw [hh] at hb;have:=w1 a b hb;show a<S'.next+c;omega
    have hgr:∀ c,aI ⟨S'.next+c,S'.heap⟩ S.next 0=.ok (2,[x.enc]):=fun c=>by
     show aI ⟨S'.next,S'.heap⟩ S.next 0=_
     rw [hh];exact hg1
    have H':s.length=cD s x.acc:=H'
    simp only [aF8,kk,own1.sl.lenI,Int.lt_irrefl]
    have:=hj0 ⟨S'.next+14,S'.heap⟩ (hown 14) (hw 14) (hgr 14) (by show S.next<S'.next+14;omega)
    rw [←H'] at this
    exact this
  ·rintro s vs S ⟨v,rfl,own,w,_⟩ aQ H
   have H':aS dT (fun l=>(l,0)) l book=(s,0):=H.symm
   simp only [aF9,kk,Int.lt_irrefl,oo,own.frz (dM (fun _=>rfl) _),H']
 ·have hr:aDf book=false:=by simpa using hr
  simp only [hr,kk,oo,if_true,List.map_nil]
end Go.Proofs.YtoaibmbldmckaaaGreat
end
section
namespace Go.Proofs.YtoaibmbldmckaaaGreat
open Go.AM Tryz
theorem bP5 (tab:List Rate) (d:Date) (l:Line) (S:St) (K:KW):C 268 [.imm (tab.map Rate.enc),.agg [.int .i64 d.y,.int .i64 d.m,.int .i64 d.d],.agg [.str l.text,.str l.cat,.int .i64 l.count,.int .i64 l.price]] S K=K (aPt (fC tab d l)) S:=by
 refine (bNp rfl ?_).eq S K
 simp only [aVc,aFy,kk,iL,aPz,bP0,bOg,fC,aPt,fY]
 by_cases c1:64<l.text.length
 ·simp only [c1,show (64:Int)<(l.text.length:Int) by omega,kk,oo,if_true]
 simp only [c1,show ¬ (64:Int)<(l.text.length:Int) by omega,kk,if_false]
 cases c2:eL l.cat
 ·simp only [c2,kk,oo,if_true]
 simp only [c2,kk,Bool.true_eq_false,if_false]
 by_cases c3:l.count<1
 ·simp only [c3,kk,oo,true_or,if_true]
 by_cases c4:1048576<l.count
 ·simp only [c3,c4,kk,oo,or_true,if_true,if_false]
 simp only [c3,c4,kk,if_false,or_self]
 cases c5:(iA tab l.cat d).2
 ·simp only [c5,kk,oo,if_true]
 ·simp only [c5,kk,oo,Bool.true_eq_false,if_false]
theorem bP6:apT prog 80=some (4,40):=by kernel_rfl
theorem bFp:tX 280=some (.spec ((Sp.ins 80).run prog)):=by kernel_rfl
theorem bP7 {P:Program} {T:TypeId} {n b:Nat} (hT:apT P T=some (n,b)) (hn:1<n) {S0 S:St} {v:V} {es:List (List V)} (h:Own S0 S n v es) (x:Ext S0 S) (w:WF S0) {c:List V} (hc:c.length=n∧aM c=true) (h1:(es.length+1)*b≤35184372088832) (h2:es.length+1<eG) {i:Nat} (hi:i≤es.length):
  ∃ v' S',fX P T v (.int .i64 (i:Int)) (.sl S.next 0 n 0 1) ⟨S.next+1,S.heap.put S.next (.row 0 n [c])⟩=.ok (v',S')∧Ext S0 S'∧Own S0 S' n v' (es.take i++c::es.drop i):=by
 have x1:Ext S ⟨S.next+1,S.heap.put S.next (.row 0 n [c])⟩:=Ext.new (x.wf w) _
 obtain ⟨v',S',q1,q2,q3,_⟩:=(h.ext x1).insertK hT hn (x.trans x1) w (bx:=S.next) (c:=c) (aO _ _ _ _ _ _) (fun a ver m hv=>by
  rcases h.is with ⟨rfl,_⟩ | ⟨a',ver',tl,rfl,_,hlt,_⟩
  ·cases hv
  ·cases hv;omega) hc h1 h2 hi
 exact ⟨v',S',q1,q2,q3⟩
theorem bP8 {S0 S:St} {v:V} {l:List Part} (own:Own S0 S 4 v (l.map Part.enc)) (x:Ext S0 S) (w:WF S0) (hl:l.length≤1000) (cat:List UInt8) (bp n:Int) {K:KW} (H:∀ v' S',Ext S0 S'→Own S0 S' 4 v' ((qC l cat bp n).1.map Part.enc)→K (.tup [v',.int .i64 (qC l cat bp n).2]) S'):C 269 [v,.str cat,.int .i64 bp,.int .i64 n] S K:=by
 refine bNr ?_
 simp only [aVe]
 have hple:=pL l cat
 have hlen:lenW v=.ok (.int .i64 (l.length:Int)):=own.sl.lenI
 have hj1:∀ (v':V) (S':St),Ext S0 S'→Own S0 S' 4 v' ((dQ l cat bp).map Part.enc)→aAd C K v' (.int .i64 n) (.int .i64 (bT l cat:Int)) S':=by
  intro v' S' x' own'
  obtain ⟨b,hb⟩:=pM l cat bp
  obtain ⟨a,ver,_,_,_,e4,hat,set1⟩:=own'.setK x' w (i:=bT l cat) (cs:=b.enc) (by simp [hb]) .i64
  obtain ⟨S2,st1,x2,n2,own2,keep2,w2⟩:=set1 2 1 (.int .i64 (cN b.net n).1) rfl rfl (by decide)
  have hld:=hat.load none 2
  simp only [adv,kk,Part.enc] at hld
  have hfin:((dQ l cat bp).map Part.enc).set (bT l cat) (splice b.enc 2 [.int .i64 (cN b.net n).1])=((dQ l cat bp).set (bT l cat) { b with net:=(cN b.net n).1 }).map Part.enc:=by rw [List.map_set];rfl
  simp only [V.cells] at own2
  rw [hfin] at own2
  have hput:qC l cat bp n=((dQ l cat bp).set (bT l cat) { b with net:=(cN b.net n).1 },(cN b.net n).2):=by simp only [qC,hb]
  simp only [aAd,e4,kk,hld,aPy,fY,st1]
  have:=H v' S2 x2 (by rw [hput];exact own2)
  rw [hput] at this
  exact this
 have hj2:vV C K v (.str cat) (.int .i64 bp) (.int .i64 n) (.int .i64 (bT l cat:Int)) (.bool (iZ l cat)) S:=by
  cases hm:iZ l cat
  ·simp only [vV,kk,Bool.false_eq_true,if_false]
   exact hj1 v S x (by rw [show dQ l cat bp=l by simp [dQ,hm]];exact own)
  ·obtain ⟨v2,S2,q1,x2,own2⟩:=bP7 bP6 (by decide) own x w (aHy ⟨cat,bp,0,0⟩) (by simp;omega) (by simp [eG];omega) (i:=bT l cat) (by simpa using hple)
   rw [←lS] at own2
   simp only [Part.enc] at q1
   simp only [vV,kk,if_true,aQ1]
   rw [aNh bFp q1]
   exact hj1 v2 S2 x2 (by rw [show dQ l cat bp=fB l (bT l cat) ⟨cat,bp,0,0⟩ by simp [dQ,hm]];exact own2)
 have hj0:aAe C K v (.str cat) (.int .i64 bp) (.int .i64 n) (.int .i64 (bT l cat:Int)) S:=by
  simp only [aAe,kk,hlen]
  by_cases hk:bT l cat=l.length
  ·have hm:iZ l cat=true:=by unfold iZ;rw [hk,List.getElem?_eq_none (Nat.le_refl _)]
   rw [hm] at hj2
   rw [hk] at hj2
   simp only [hk,kk,if_true]
   exact hj2
  ·have hlt:bT l cat<l.length:=by omega
   have hb:l[bT l cat]?=some l[bT l cat]:=List.getElem?_eq_getElem hlt
   have hm:iZ l cat=!((l[bT l cat]).cat == cat):=by unfold iZ;rw [hb]
   rw [hm] at hj2
   obtain ⟨p,hp,hat,_,_⟩:=own.sl.elem hb
   have hld:=hat.load none 0
   simp only [Part.enc,kk] at hld
   simp only [show ¬ ((bT l cat:Nat):Int)=(l.length:Int) by omega,kk,if_false,hp,hat.advW,hld]
   exact hj2
 refine aZ l (step:=eM (fun b:Part=>fS b.cat cat)) (fin:=id) (fun k n vs S'=>n=k∧vs=[.int .i64 (k:Int)]∧S'=S) (fun r=>r=bT l cat) ?_ ?_ ⟨rfl,rfl,rfl⟩ rfl
 ·rintro k b m vs S' hk ⟨rfl,rfl,rfl⟩ again' H'
  have hkl:=(List.getElem?_eq_some_iff.1 hk).1
  obtain ⟨p,hp,hat,_,_⟩:=own.sl.elem hk
  have hld:=hat.load none 0
  simp only [Part.enc,kk] at hld
  simp only [eM] at H'
  simp only [aFz,kk,hlen,dK hk,hp,hat.advW,hld,mO (show m<1000000000 by omega)]
  cases c:fS b.cat cat<;>simp only [c,kk,if_true,if_false,Bool.false_eq_true] at H' ⊢
  ·rw [←H'] at hj0
   exact hj0
  ·exact H' _ _ ⟨rfl,rfl⟩
 ·rintro m vs S' ⟨rfl,rfl,rfl⟩ again' H'
  have H':l.length=bT l cat:=H'
  simp only [aFz,kk,hlen,Int.lt_irrefl,if_false]
  rw [←H'] at hj0
  exact hj0
end Go.Proofs.YtoaibmbldmckaaaGreat
end
section
namespace Go.AM
theorem Own.one {S0 S:St} {n:Nat} {v:V} {es:List (List V)} (h:Own S0 S n v es):v.one=true:=by
 rcases h.is with ⟨rfl,_⟩ | ⟨a,ver,tl,rfl,_⟩<;>rfl
theorem Own.cells {S0 S:St} {n:Nat} {v:V} {es:List (List V)} (h:Own S0 S n v es):v.cells=[v]:=by
 rcases h.is with ⟨rfl,_⟩ | ⟨a,ver,tl,rfl,_⟩<;>rfl
theorem Own.lt {S0 S:St} {n:Nat} {v:V} {es:List (List V)} (h:Own S0 S n v es):∀ a ver m,v=.sl a ver n 0 m→a<S.next:=by
 intro a ver m hv
 rcases h.is with ⟨rfl,_⟩ | ⟨a',ver',tl,rfl,_,hlt,_⟩
 ·cases hv
 ·cases hv;exact hlt
theorem Own.ld {S0 S:St} {n:Nat} {v:V} {es:List (List V)} (h:Own S0 S n v es) {a ver m:Nat} (hv:v=.sl a ver n 0 m) {i:Nat} {cs:List V} (hi:es[i]?=some cs) (k:Option Nat) (j:Nat):bB k (.ptr a ver i j) S=gK k cs j:=by
 rcases h.is with ⟨rfl,rfl⟩ | ⟨a',ver',tl,rfl,q1,q2,q3⟩
 ·simp at hi
 ·cases hv
  have hil:=(List.getElem?_eq_some_iff.1 hi).1
  have hg:(es++tl)[i]?=some cs:=by rw [List.getElem?_append_left hil];exact hi
  simp only [ldP,eV q3,hg]
theorem Own.put {S0 S:St} {n:Nat} {v:V} {es:List (List V)} (h:Own S0 S n v es) {k m:Nat} {b:Blk} (hm:S.next≤m) (hk:∀ a ver m,v=.sl a ver n 0 m→k≠a):Own S0 ⟨m,S.heap.put k b⟩ n v es:=
 h.other hm fun a ver m hv=>Tr.get_put_neB _ _ _ _ trivial (Ne.symm (hk a ver m hv))
theorem Ext.put {S S':St} (h:Ext S S') {a m:Nat} (ha:S.next≤a) (hb:a<m) (hm:S'.next≤m) (w:WF S) (b:Blk):Ext S ⟨m,S'.heap.put a b⟩:=
 ⟨fun y c hy=>by
  show (S'.heap.put a b).get y=some c
  have:=w y c hy
  rw [Tr.get_put_neB _ _ _ _ trivial (by omega)];exact h.old y c hy,Nat.le_trans h.next hm,fun ww=>hJ (h.wf ww) hb hm⟩
end Go.AM
namespace Go.Proofs.YtoaibmbldmckaaaGreat
open Go.AM Tryz
set_option linter.unusedVariables false
set_option linter.unusedSimpArgs false
set_option maxRecDepth 100000
theorem bP9 {S0 S:St} {v:V} {l:List Part} (own:Own S0 S 4 v (l.map Part.enc)) (x:Ext S0 S) (w:WF S0) (hl:l.length≤1000) {K:KW}
  (H:∀ v' S',Ext S0 S'→Own S0 S' 4 v' ((eT l).1.parts.map Part.enc)→K (.tup [.agg [.int .i64 (eT l).1.net,.int .i64 (eT l).1.tax,.int .i64 (eT l).1.gross,v'],.int .i64 (eT l).2]) S'):C 270 [v] S K:=by
 refine bNt ?_
 have hlen:lenW v=.ok (.int .i64 (l.length:Int)):=own.sl.lenI
 have h1:=own.one
 have hlt:=own.lt
 have h2:=own.cells
 simp only [aVg,kk,h1,h2,hlen]
 have hn:=x.next
 refine aZ l (step:=fR) (fin:=kQ) (fun i s vs S'=>vs=[.int .i64 0,.int .i64 (i:Int)]∧Ext S0 S'∧Own S0 S' 4 v ((s.2.2++l.drop i).map Part.enc)∧s.2.2.length=i∧S.next+2≤S'.next∧aI S' S.next 0=.ok (4,[[.int .i64 0,.int .i64 0,.int .i64 0,.nils]])∧aI S' (S.next+1) 0=.ok (4,[[.int .i64 s.1,.int .i64 s.2.1,.int .i64 0,v]])) (fun r=>r=eT l) ?_ ?_ (s:=(0,0,[])) ⟨rfl,?_,?_,rfl,?_,?_,?_⟩ rfl
 ·rintro i p ⟨net,tax,done⟩ vs S' hi ⟨rfl,x',own',hd,hn',hg0,hg1⟩ aQ Hq
  have hil:=(List.getElem?_eq_some_iff.1 hi).1
  obtain ⟨a,ver,hv,ha,hb,e4,hat,set1⟩:=(own'.bump 17).setK (x'.bump 17) w (i:=i) (cs:=p.enc) (by
   rw [List.getElem?_map,List.getElem?_append_right (by omega),hd,Nat.sub_self,List.getElem?_drop,Nat.add_zero,hi];rfl) .i64
  obtain ⟨S2,st1,x2,n2,own2,keep2,w2⟩:=set1 3 1 (.int .i64 (cG p.net p.bp).1) rfl rfl (by decide)
  have hav:=hlt a ver _ hv
  have hld2:=hat.load none 2
  have hld1:=hat.load none 1
  simp only [adv,kk,Part.enc] at hld1 hld2
  have hne0:a≠S.next:=by omega
  have hne1:a≠S.next+1:=by omega
  have k0:=aX (S:=⟨S'.next+17,S'.heap⟩) hg0 (keep2 S.next (Ne.symm hne0))
  have k1:=aX (S:=⟨S'.next+17,S'.heap⟩) hg1 (keep2 (S.next+1) (Ne.symm hne1))
  have hes:((done++l.drop i).map Part.enc).set i (splice p.enc 3 [.int .i64 (cG p.net p.bp).1])=((done++[{ p with tax:=(cG p.net p.bp).1 }])++l.drop (i+1)).map Part.enc:=by
   have hd':done.length=i:=hd
   rw [List.drop_eq_getElem_cons hil,(List.getElem?_eq_some_iff.1 hi).2]
   simp only [List.map_append,List.map_cons,List.map_nil,List.append_assoc,List.singleton_append]
   rw [List.set_append_right _ _ (by simp;omega)]
   simp only [List.length_map,hd',Nat.sub_self,List.set_cons_zero]
   rfl
  simp only [V.cells] at own2
  rw [hes] at own2
  have hi2:(((done++[{ p with tax:=(cG p.net p.bp).1 }])++l.drop (i+1)).map Part.enc)[i]?=some (Part.enc { p with tax:=(cG p.net p.bp).1 }):=by
   have hd':done.length=i:=hd
   rw [List.getElem?_map,List.getElem?_append_left (by simp;omega),List.getElem?_append_right (by omega),hd',Nat.sub_self];rfl
  have ow3:∀ (m:Nat) (b:Blk),S2.next≤m→Own S0 ⟨m,S2.heap.put (S.next+1) b⟩ 4 v (((done++[{ p with tax:=(cG p.net p.bp).1 }])++l.drop (i+1)).map Part.enc):=fun m b hm=>own2.put hm fun a ver m hv=>by have:=hlt a ver m hv;omega
  have ld3:∀ (m:Nat) (b:Blk) (k:Option Nat) (j:Nat),S2.next≤m→bB k (.ptr a ver i j) ⟨m,S2.heap.put (S.next+1) b⟩=gK k (Part.enc { p with tax:=(cG p.net p.bp).1 }) j:=fun m b k j hm=>(ow3 m b hm).ld hv hi2 k j
  have ld2:∀ k j,bB k (.ptr a ver i j) ⟨S2.next+13,S2.heap⟩=gK k (Part.enc { p with tax:=(cG p.net p.bp).1 }) j:=fun k j=>(own2.bump 13).ld hv hi2 k j
  have l2:=ld2 none 2
  have l3:=fun m b hm=>ld3 m b none 3 hm
  simp only [fR] at Hq
  simp only [kk,Part.enc] at l2 l3
  have hn2:S2.next=S'.next+17:=n2
  have g0:∀ (m:Nat) (b:Blk),aI ⟨m,S2.heap.put (S.next+1) b⟩ S.next 0=.ok (4,[[V.int IntKind.i64 0,V.int IntKind.i64 0,V.int IntKind.i64 0,V.nils]]):=fun m b=>by
   rw [cX _ S2.next _ _ _ _ _ (by omega)];exact k0
  have x3:∀ (m:Nat) (b:Blk),S2.next≤m→Ext S0 ⟨m,S2.heap.put (S.next+1) b⟩:=fun m b hm=>x2.put (by omega) (by omega) hm w b
  simp only [aG0,kk,dK hi,e4,hld1,hld2,bF2,aPy,fY,st1,mO (show i<1000000000 by omega),gm,k1,l2,l3 _ _ (show S2.next≤S2.next+13+13 by omega)]
  obtain ⟨S9,hS9⟩:∃ S9:St,S9=⟨S2.next+13+13,(S2.heap.put (S.next+1) (Blk.row 0 4 [[V.int IntKind.i64 (cN net p.net).1,V.int IntKind.i64 tax,V.int IntKind.i64 0,v]])).put (S.next+1) (Blk.row 0 4 [[V.int IntKind.i64 (cN net p.net).1,V.int IntKind.i64 (cN tax (cG p.net p.bp).1).1,V.int IntKind.i64 0,v]])⟩:=⟨_,rfl⟩
  have x9:Ext S0 S9:=by rw [hS9];exact (x3 S2.next _ (Nat.le_refl _)).put (by omega) (by omega) (show S2.next≤S2.next+13+13 by omega) w _
  have o9:Own S0 S9 4 v (((done++[{ p with tax:=(cG p.net p.bp).1 }])++l.drop (i+1)).map Part.enc):=by rw [hS9];exact (ow3 S2.next _ (Nat.le_refl _)).put (show S2.next≤S2.next+13+13 by omega) fun a ver m hv=>by have:=hlt a ver m hv;omega
  have r9:aI S9 S.next 0=.ok (4,[[V.int IntKind.i64 0,V.int IntKind.i64 0,V.int IntKind.i64 0,V.nils]]):=by rw [hS9,cX _ S2.next _ _ _ _ _ (by omega)];exact g0 _ _
  have q9:aI S9 (S.next+1) 0=.ok (4,[[V.int IntKind.i64 (cN net p.net).1,V.int IntKind.i64 (cN tax (cG p.net p.bp).1).1,V.int IntKind.i64 0,v]]):=by rw [hS9];exact aO _ _ _ _ _ _
  have n9:S.next+2≤S9.next:=by rw [hS9];show _≤S2.next+13+13;omega
  rw [←hS9]
  have fail:eT l=(Total.zero,7)→rZ C K aQ v (V.ptr S.next 0 0 0) (V.int IntKind.i64 0) (V.ptr (S.next+1) 0 0 0) (V.int IntKind.i64 ↑l.length) (V.int IntKind.i64 ↑i) (V.bool true) S9:=by
   intro he
   have:=H .nils ⟨S9.next,S9.heap.put S.next (.row 0 4 [[.int .i64 0,.int .i64 0,.int .i64 0,.nils]])⟩ (x9.put hn (by omega) (Nat.le_refl _) w _) (by rw [he];exact Own.nil _ _ _)
   simp only [he,Total.zero] at this
   simp only [rZ,kk,r9]
   exact this
  by_cases c1:(cG p.net p.bp).2=0
  ·by_cases c2:(cN net p.net).2=0
   ·simp only [c1,c2,kk,not_true_eq_false,not_false_eq_true,false_or,if_false,if_true] at Hq ⊢
    by_cases c3:(cN tax (cG p.net p.bp).1).2=0
    ·simp only [c3,kk,not_true_eq_false,if_false] at Hq ⊢
     simp only [rZ,kk,mO (show i<1000000000 by omega),decide_true,decide_false,Bool.false_eq_true,if_false]
     exact Hq _ _ ⟨rfl,x9,o9,by have hd':done.length=i:=hd;simp;omega,n9,r9,q9⟩
    ·simp only [c3,kk,not_false_eq_true,if_true,decide_false] at Hq ⊢
     exact fail Hq.symm
   ·simp only [c1,c2,kk,not_true_eq_false,not_false_eq_true,false_or,true_or,if_false,if_true] at Hq ⊢
    exact fail Hq.symm
  ·simp only [c1,kk,not_false_eq_true,true_or,if_true] at Hq ⊢
   exact fail Hq.symm
 ·rintro ⟨net,tax,done⟩ vs S' ⟨rfl,x',own',hd,hn',hg0,hg1⟩ aQ Hq
  rw [List.drop_length,List.append_nil] at own'
  simp only [kQ] at Hq
  simp only [aG0,kk,Int.lt_irrefl,if_false,hg1,aPy,fY]
  by_cases c:(cN net tax).2=0
  ·simp only [c,kk,not_true_eq_false,if_false] at Hq ⊢
   have hb:∀ (k:Nat) (b:Blk),aI ⟨S'.next,S'.heap.put (S.next+1) b⟩ S.next 0=.ok (4,[[V.int IntKind.i64 0,V.int IntKind.i64 0,V.int IntKind.i64 0,V.nils]]):=fun k b=>by rw [cX _ S'.next _ _ _ _ _ (by omega)];exact hg0
   simp only [hb 0,kk,h1,h2,gm]
   have x1:=x'.put (a:=S.next+1) (m:=S'.next) (by omega) (by omega) (Nat.le_refl _) w (.row 0 4 [[.int .i64 net,.int .i64 tax,.int .i64 (cN net tax).1,v]])
   have o1:=own'.put (k:=S.next+1) (m:=S'.next) (b:=.row 0 4 [[.int .i64 net,.int .i64 tax,.int .i64 (cN net tax).1,v]]) (Nat.le_refl _) fun a ver m hv=>by have:=hlt a ver m hv;omega
   have:=H v _ (x1.put (a:=S.next) (m:=S'.next) hn (by omega) (Nat.le_refl _) w (.row 0 4 [[.int .i64 net,.int .i64 tax,.int .i64 (cN net tax).1,v]])) (by rw [←Hq];exact o1.put (Nat.le_refl _) fun a ver m hv=>by have:=hlt a ver m hv;omega)
   rw [←Hq] at this
   exact this
  ·simp only [c,kk,not_false_eq_true,if_true] at Hq ⊢
   simp only [hg0,kk]
   have:=H .nils ⟨S'.next,S'.heap.put S.next (.row 0 4 [[.int .i64 0,.int .i64 0,.int .i64 0,.nils]])⟩ (x'.put hn (by omega) (Nat.le_refl _) w _) (by rw [←Hq];exact Own.nil _ _ _)
   rw [←Hq] at this
   exact this
 ·exact ((x.put (m:=S.next+1+1) hn (by omega) (by omega) w _).put (m:=S.next+1+1) (by omega) (by omega) (Nat.le_refl _) w _).put (m:=S.next+1+1) (by omega) (by omega) (Nat.le_refl _) w _
 ·rw [List.nil_append,List.drop_zero]
  have nn:∀ k,S.next≤k→∀ a ver m,v=.sl a ver 4 0 m→k≠a:=fun k hk a ver m hv=>by have:=hlt a ver m hv;omega
  exact ((own.put (m:=S.next+1+1) (by omega) (nn _ (Nat.le_refl _))).put (Nat.le_refl _) (nn _ (by omega))).put (Nat.le_refl _) (nn _ (by omega))
 ·exact Nat.le_refl _
 ·rw [cX _ S.next _ _ _ _ _ (by omega),cX _ S.next _ _ _ _ _ (by omega)];exact aO _ _ _ _ _ _
 ·exact aO _ _ _ _ _ _
end Go.Proofs.YtoaibmbldmckaaaGreat
end
section
namespace Go.AM
theorem Own.out {S0 S:St} {n:Nat} {v:V} {α:Type} {enc:α→List V} {l:List α} (h:Own S0 S n v (l.map enc)) (hc:∀ x,cloVs (enc x)=true):dH lX (oS (kA S 3) S) v=.ok (.imm (l.map enc)):=h.frz (dM hc _)
end Go.AM
namespace Go.Proofs.YtoaibmbldmckaaaGreat
open Go.AM Tryz
set_option linter.unusedVariables false
set_option linter.unusedSimpArgs false
set_option maxRecDepth 100000
def aK2 (r:Total×Int):V:=.tup [.agg [.int .i64 r.1.net,.int .i64 r.1.tax,.int .i64 r.1.gross,.imm (r.1.parts.map Part.enc)],.int .i64 r.2]
theorem bPa (tab:List Rate) (d:Date) (lines:List Line) (hll:lines.length<1000000) (S:St) (K:KW):C 238 [.imm (tab.map Rate.enc),.agg [.int .i64 d.y,.int .i64 d.m,.int .i64 d.d],.imm (lines.map Line.enc)] S K=K (aK2 (dL tab d lines)) S:=by
 refine (bNd rfl ?_).eq S K
 simp only [aV0,kk,iL,g85,zX,dL,aK2]
 cases h1:fT tab
 ·simp only [h1,kk,oo,if_true,Total.zero,List.map_nil]
 cases h2:d.right
 ·simp only [h1,h2,kk,iL,oo,if_true,Bool.true_eq_false,if_false,Total.zero,List.map_nil]
 simp only [h1,h2,kk,Bool.true_eq_false,if_false,iL,zX]
 by_cases h3:lines.length=0
 ·simp only [h3,kk,iL,oo,show ((0:Nat):Int)=0 from rfl,if_true,Total.zero,List.map_nil]
 by_cases h4:12<lines.length
 ·simp only [h3,h4,kk,iL,oo,show ¬ (lines.length:Int)=0 by omega,show (12:Int)<(lines.length:Int) by omega,if_true,if_false,Total.zero,List.map_nil]
 simp only [h3,h4,kk,iL,show ¬ (lines.length:Int)=0 by omega,show ¬ (12:Int)<(lines.length:Int) by omega,if_false]
 obtain ⟨S0,hS0⟩:∃ S0:St,S0=⟨1+1,(Tr.nil.put 0 (.row 0 3 [d.enc])).put 1 (.row 0 4 [[.int .i64 0,.int .i64 0,.int .i64 0,.nils]])⟩:=⟨_,rfl⟩
 have w0:WF S0:=by rw [hS0];exact hJ (n:=1) (hJ oU (by decide) (by decide)) (by decide) (by decide)
 have a0:aI S0 0 0=.ok (3,[d.enc]):=by rw [hS0];rfl
 have a1:aI S0 1 0=.ok (4,[[.int .i64 0,.int .i64 0,.int .i64 0,.nils]]):=by rw [hS0];rfl
 have n0:S0.next=2:=by rw [hS0]
 simp only [Date.enc] at a0
 refine aZ lines (step:=iC tab d) (fin:=eT) (fun i s vs S=>∃ v,vs=[.int .i64 0,v,.int .i64 (i:Int)]∧Own S0 S 4 v (s.map Part.enc)∧Ext S0 S∧s.length≤i) (fun r=>r=aS (iC tab d) eT lines []) ?_ ?_ (s:=[]) ⟨_,rfl,Own.nil _ _ _,by rw [hS0];exact Ext.refl _,Nat.le_refl _⟩ rfl
 ·rintro i l s vs S hi ⟨v,rfl,own,x,hsl⟩ aQ H
  have hil:=(List.getElem?_eq_some_iff.1 hi).1
  simp only [iC] at H
  have hn:=x.next
  have b0:=x.row a0
  have b1:=x.row a1
  have z0:((0:Nat)=S.next)=False:=by simp;omega
  have z1:((1:Nat)=S.next)=False:=by simp;omega
  have x1:Ext S0 ⟨S.next+1,(S.heap.put S.next (.row 0 4 [[.str [],.str [],.int .i64 0,.int .i64 0]])).put S.next (.row 0 4 [l.enc])⟩:=(x.put (m:=S.next+1) hn (by omega) (by omega) w0 _).put (m:=S.next+1) hn (by omega) (Nat.le_refl _) w0 _
  have nn:∀ a ver m,v=.sl a ver 4 0 m→S.next≠a:=fun a ver m hv=>by have:=own.lt a ver m hv;omega
  have o1:Own S0 ⟨S.next+1,(S.heap.put S.next (.row 0 4 [[.str [],.str [],.int .i64 0,.int .i64 0]])).put S.next (.row 0 4 [l.enc])⟩ 4 v (s.map Part.enc):=(own.put (m:=S.next+1) (by omega) nn).put (m:=S.next+1) (Nat.le_refl _) nn
  simp only [Line.enc] at x1 o1
  simp only [aFt,kk,dK hi,bAy hi,Line.enc,iL,z0,z1,gm,b0,b1,bP5,aPt]
  by_cases c1:(fC tab d l).2.2=0
  ·simp only [c1,kk,not_true_eq_false,if_false] at H ⊢
   refine bP8 o1 x1 w0 (by omega) l.cat _ _ fun v' S' x' own'=>?_
   have b1':=x'.row a1
   by_cases c2:(qC s l.cat (fC tab d l).1 (fC tab d l).2.1).2=0
   ·simp only [c2,kk,not_true_eq_false,if_false,mO (show i<1000000000 by omega)] at H ⊢
    exact H _ _ ⟨v',rfl,own',x',by have:=aHr s l.cat (fC tab d l).1 (fC tab d l).2.1;omega⟩
   ·simp only [c2,kk,b1',not_false_eq_true,if_true] at H ⊢
    simp only [oo,←H,Total.zero,List.map_nil]
  ·simp only [c1,kk,not_false_eq_true,if_true] at H ⊢
   simp only [oo,←H,Total.zero,List.map_nil]
 ·rintro s vs S ⟨v,rfl,own,x,hsl⟩ aQ H
  simp only [aFt,kk,Int.lt_irrefl,if_false]
  refine bP9 own x w0 (by omega) fun v' S' x' own'=>?_
  have b1':=x'.row a1
  have H':eT s=aS (iC tab d) eT lines []:=H
  simp only [kk,own'.one,own'.cells,b1',←H']
  have:=(own'.put (m:=S'.next) (k:=1) (b:=.row 0 4 [[.int .i64 (eT s).1.net,.int .i64 (eT s).1.tax,.int .i64 (eT s).1.gross,v']]) (Nat.le_refl _) fun a ver m hv=>by
   rcases own'.is with ⟨rfl,_⟩ | ⟨a',ver',tl,rfl,h,_⟩
   ·cases hv
   ·cases hv;omega).out fun _=>rfl
  simp only [oo,this]
end Go.Proofs.YtoaibmbldmckaaaGreat
end
