/-
  No cell of these rows narrows 'for every input' (looked for: loops, veiled, ifaces, maps, wideKeys, modest, calm, conditions, laid).
  DERIVED. THE GIVEN ROWS OF THIS SEAT. 10 by the template 'for every input the law returns true; each argument reads behind the call as it read before'; 0 by the template 'total and deterministic' (their statements: YtjbicclbalagbaaGreatTotals.lean).
  GIVEN WITH THE SEED: the statements are not yours to turn. If you find one false, say at which input.
  Laid BY PROGRAM, IN A SANDBOX (cutbox-rows.mjs): the forced cells as the released guide's own fill.sh prints them over the translation b405ade16233ab6f… (all of the seat's roots in one cut). By AI agents, Wed Nov 11 2026. No macro, syntax, notation, axiom, sorry.
-/
import Derived.Test.YtjbicclbalagbaaGreatChecked
import GoSem.Claim
import GoSem.ClaimJoined
import GoSem.ClaimMapViews
import Derived.JoinedTies
import Derived.KernelRfl
namespace Go.Proofs.YtjbicclbalagbaaGreat
/- THE CELL 'sum', in the pinned program and in every row, IS THE sha256 OF THE DUMP (.gsa) THAT YtjbicclbalagbaaGreatProg.lean LOADS. Nothing in Lean hashes anything: it is a label: what it is worth is what the hold of that sum in a sandbox is worth. -/
noncomputable def Tryz.pinned : Pinned := { name := "ytjbicclbalagbaagreat", sum := "b405ade16233ab6f5301a36e791cea33400a5929d2090cad68ad7e29b1d118dd", checked := Tryz.checked }
namespace Rows
def none {H : Type} : Left H := { results := [], args := [] }

/-- 'impostlaw14.BillingPlays': WHATEVER THE INPUT: true; the input reads as it did. -/
def billingPlaysSpec : ChangeSpec := { name := "billingPlays", fn := fun _ => fun
  | [d] => { results := [.lit (.bool true)], args := [d] }
  | _ => none }
def billingPlaysRow : OpenClaim := { program := "ytjbicclbalagbaagreat", sum := "b405ade16233ab6f5301a36e791cea33400a5929d2090cad68ad7e29b1d118dd", func := "impost/impostlaw14.BillingPlays", spec := "billingPlays", inPlace := ["math/bits.Add64", "slices.overlaps[impost/api.Balance]", "slices.overlaps[impost/api.Session]", "slices.overlaps[impost/api.Series]", "slices.overlaps[impost/api.Rate]", "slices.overlaps[impost/api.Part]"], unfollowed := true, recurses := true, apart := false }
def BillingPlaysSaid : Prop := billingPlaysRow.holds Tryz.pinned (OpenSpec.ofChange billingPlaysSpec)

/-- ITS FALSE NEIGHBOUR: 'it returns false'. Refute it at one input. -/
def billingPlaysWrong : ChangeSpec := { name := "billingPlays", fn := fun _ => fun
  | [d] => { results := [.lit (.bool false)], args := [d] }
  | _ => none }
def BillingPlaysWrongFalsely : Prop := billingPlaysRow.holds Tryz.pinned (OpenSpec.ofChange billingPlaysWrong)

/-- 'impostlaw14.BillingAny': WHATEVER THE INPUT: true; the input reads as it did. -/
def billingAnySpec : ChangeSpec := { name := "billingAny", fn := fun _ => fun
  | [d1, d2] => { results := [.lit (.bool true)], args := [d1, d2] }
  | _ => none }
def billingAnyRow : OpenClaim := { program := "ytjbicclbalagbaagreat", sum := "b405ade16233ab6f5301a36e791cea33400a5929d2090cad68ad7e29b1d118dd", func := "impost/impostlaw14.BillingAny", spec := "billingAny", inPlace := ["math/bits.Add64", "slices.overlaps[impost/api.Balance]", "slices.overlaps[impost/api.Session]", "slices.overlaps[impost/api.Series]", "slices.overlaps[impost/api.Rate]", "slices.overlaps[impost/api.Part]"], unfollowed := true, recurses := true, apart := false }
def BillingAnySaid : Prop := billingAnyRow.holds Tryz.pinned (OpenSpec.ofChange billingAnySpec)

/-- ITS FALSE NEIGHBOUR: 'it returns false'. Refute it at one input. -/
def billingAnyWrong : ChangeSpec := { name := "billingAny", fn := fun _ => fun
  | [d1, d2] => { results := [.lit (.bool false)], args := [d1, d2] }
  | _ => none }
def BillingAnyWrongFalsely : Prop := billingAnyRow.holds Tryz.pinned (OpenSpec.ofChange billingAnyWrong)

/-- 'impostlaw14.BillingGapless': WHATEVER THE INPUT: true; the input reads as it did. -/
def billingGaplessSpec : ChangeSpec := { name := "billingGapless", fn := fun _ => fun
  | [d] => { results := [.lit (.bool true)], args := [d] }
  | _ => none }
def billingGaplessRow : OpenClaim := { program := "ytjbicclbalagbaagreat", sum := "b405ade16233ab6f5301a36e791cea33400a5929d2090cad68ad7e29b1d118dd", func := "impost/impostlaw14.BillingGapless", spec := "billingGapless", inPlace := ["math/bits.Add64", "slices.overlaps[impost/api.Balance]", "slices.overlaps[impost/api.Session]", "slices.overlaps[impost/api.Series]", "slices.overlaps[impost/api.Rate]", "slices.overlaps[impost/api.Part]"], unfollowed := true, recurses := true, apart := false }
def BillingGaplessSaid : Prop := billingGaplessRow.holds Tryz.pinned (OpenSpec.ofChange billingGaplessSpec)

/-- ITS FALSE NEIGHBOUR: 'it returns false'. Refute it at one input. -/
def billingGaplessWrong : ChangeSpec := { name := "billingGapless", fn := fun _ => fun
  | [d] => { results := [.lit (.bool false)], args := [d] }
  | _ => none }
def BillingGaplessWrongFalsely : Prop := billingGaplessRow.holds Tryz.pinned (OpenSpec.ofChange billingGaplessWrong)

/-- 'impostlaw14.BillingAgain': WHATEVER THE INPUT: true; the input reads as it did. -/
def billingAgainSpec : ChangeSpec := { name := "billingAgain", fn := fun _ => fun
  | [d1, d2] => { results := [.lit (.bool true)], args := [d1, d2] }
  | _ => none }
def billingAgainRow : OpenClaim := { program := "ytjbicclbalagbaagreat", sum := "b405ade16233ab6f5301a36e791cea33400a5929d2090cad68ad7e29b1d118dd", func := "impost/impostlaw14.BillingAgain", spec := "billingAgain", inPlace := ["math/bits.Add64", "slices.overlaps[impost/api.Balance]", "slices.overlaps[impost/api.Session]", "slices.overlaps[impost/api.Series]", "slices.overlaps[impost/api.Rate]", "slices.overlaps[impost/api.Part]"], unfollowed := true, recurses := true, apart := false }
def BillingAgainSaid : Prop := billingAgainRow.holds Tryz.pinned (OpenSpec.ofChange billingAgainSpec)

/-- ITS FALSE NEIGHBOUR: 'it returns false'. Refute it at one input. -/
def billingAgainWrong : ChangeSpec := { name := "billingAgain", fn := fun _ => fun
  | [d1, d2] => { results := [.lit (.bool false)], args := [d1, d2] }
  | _ => none }
def BillingAgainWrongFalsely : Prop := billingAgainRow.holds Tryz.pinned (OpenSpec.ofChange billingAgainWrong)

/-- 'impostlaw14.BillingRefused': WHATEVER THE INPUT: true; the input reads as it did. -/
def billingRefusedSpec : ChangeSpec := { name := "billingRefused", fn := fun _ => fun
  | [d1, d2] => { results := [.lit (.bool true)], args := [d1, d2] }
  | _ => none }
def billingRefusedRow : OpenClaim := { program := "ytjbicclbalagbaagreat", sum := "b405ade16233ab6f5301a36e791cea33400a5929d2090cad68ad7e29b1d118dd", func := "impost/impostlaw14.BillingRefused", spec := "billingRefused", inPlace := ["math/bits.Add64", "slices.overlaps[impost/api.Balance]", "slices.overlaps[impost/api.Session]", "slices.overlaps[impost/api.Series]", "slices.overlaps[impost/api.Rate]", "slices.overlaps[impost/api.Part]"], unfollowed := true, recurses := true, apart := false }
def BillingRefusedSaid : Prop := billingRefusedRow.holds Tryz.pinned (OpenSpec.ofChange billingRefusedSpec)

/-- ITS FALSE NEIGHBOUR: 'it returns false'. Refute it at one input. -/
def billingRefusedWrong : ChangeSpec := { name := "billingRefused", fn := fun _ => fun
  | [d1, d2] => { results := [.lit (.bool false)], args := [d1, d2] }
  | _ => none }
def BillingRefusedWrongFalsely : Prop := billingRefusedRow.holds Tryz.pinned (OpenSpec.ofChange billingRefusedWrong)

/-- 'impostlaw14.BillingOnce': WHATEVER THE INPUT: true; the input reads as it did. -/
def billingOnceSpec : ChangeSpec := { name := "billingOnce", fn := fun _ => fun
  | [d] => { results := [.lit (.bool true)], args := [d] }
  | _ => none }
def billingOnceRow : OpenClaim := { program := "ytjbicclbalagbaagreat", sum := "b405ade16233ab6f5301a36e791cea33400a5929d2090cad68ad7e29b1d118dd", func := "impost/impostlaw14.BillingOnce", spec := "billingOnce", inPlace := ["math/bits.Add64", "slices.overlaps[impost/api.Balance]", "slices.overlaps[impost/api.Session]", "slices.overlaps[impost/api.Series]", "slices.overlaps[impost/api.Rate]", "slices.overlaps[impost/api.Part]"], unfollowed := true, recurses := true, apart := false }
def BillingOnceSaid : Prop := billingOnceRow.holds Tryz.pinned (OpenSpec.ofChange billingOnceSpec)

/-- ITS FALSE NEIGHBOUR: 'it returns false'. Refute it at one input. -/
def billingOnceWrong : ChangeSpec := { name := "billingOnce", fn := fun _ => fun
  | [d] => { results := [.lit (.bool false)], args := [d] }
  | _ => none }
def BillingOnceWrongFalsely : Prop := billingOnceRow.holds Tryz.pinned (OpenSpec.ofChange billingOnceWrong)

/-- 'impostlaw14.BillingTaken': WHATEVER THE INPUT: true; the input reads as it did. -/
def billingTakenSpec : ChangeSpec := { name := "billingTaken", fn := fun _ => fun
  | [d] => { results := [.lit (.bool true)], args := [d] }
  | _ => none }
def billingTakenRow : OpenClaim := { program := "ytjbicclbalagbaagreat", sum := "b405ade16233ab6f5301a36e791cea33400a5929d2090cad68ad7e29b1d118dd", func := "impost/impostlaw14.BillingTaken", spec := "billingTaken", inPlace := ["math/bits.Add64", "slices.overlaps[impost/api.Balance]", "slices.overlaps[impost/api.Session]", "slices.overlaps[impost/api.Series]", "slices.overlaps[impost/api.Rate]", "slices.overlaps[impost/api.Part]"], unfollowed := true, recurses := true, apart := false }
def BillingTakenSaid : Prop := billingTakenRow.holds Tryz.pinned (OpenSpec.ofChange billingTakenSpec)

/-- ITS FALSE NEIGHBOUR: 'it returns false'. Refute it at one input. -/
def billingTakenWrong : ChangeSpec := { name := "billingTaken", fn := fun _ => fun
  | [d] => { results := [.lit (.bool false)], args := [d] }
  | _ => none }
def BillingTakenWrongFalsely : Prop := billingTakenRow.holds Tryz.pinned (OpenSpec.ofChange billingTakenWrong)

/-- 'impostlaw14.BillingLimit': WHATEVER THE INPUT: true; the input reads as it did. -/
def billingLimitSpec : ChangeSpec := { name := "billingLimit", fn := fun _ => fun
  | [d1, d2] => { results := [.lit (.bool true)], args := [d1, d2] }
  | _ => none }
def billingLimitRow : OpenClaim := { program := "ytjbicclbalagbaagreat", sum := "b405ade16233ab6f5301a36e791cea33400a5929d2090cad68ad7e29b1d118dd", func := "impost/impostlaw14.BillingLimit", spec := "billingLimit", inPlace := ["math/bits.Add64", "slices.overlaps[impost/api.Balance]", "slices.overlaps[impost/api.Session]", "slices.overlaps[impost/api.Series]", "slices.overlaps[impost/api.Rate]", "slices.overlaps[impost/api.Part]"], unfollowed := true, recurses := true, apart := false }
def BillingLimitSaid : Prop := billingLimitRow.holds Tryz.pinned (OpenSpec.ofChange billingLimitSpec)

/-- ITS FALSE NEIGHBOUR: 'it returns false'. Refute it at one input. -/
def billingLimitWrong : ChangeSpec := { name := "billingLimit", fn := fun _ => fun
  | [d1, d2] => { results := [.lit (.bool false)], args := [d1, d2] }
  | _ => none }
def BillingLimitWrongFalsely : Prop := billingLimitRow.holds Tryz.pinned (OpenSpec.ofChange billingLimitWrong)

/-- 'impostlaw14.BillingParts': WHATEVER THE INPUT: true; the input reads as it did. -/
def billingPartsSpec : ChangeSpec := { name := "billingParts", fn := fun _ => fun
  | [d1, d2] => { results := [.lit (.bool true)], args := [d1, d2] }
  | _ => none }
def billingPartsRow : OpenClaim := { program := "ytjbicclbalagbaagreat", sum := "b405ade16233ab6f5301a36e791cea33400a5929d2090cad68ad7e29b1d118dd", func := "impost/impostlaw14.BillingParts", spec := "billingParts", inPlace := ["math/bits.Add64", "slices.overlaps[impost/api.Balance]", "slices.overlaps[impost/api.Session]", "slices.overlaps[impost/api.Series]", "slices.overlaps[impost/api.Rate]", "slices.overlaps[impost/api.Part]"], unfollowed := true, recurses := true, apart := false }
def BillingPartsSaid : Prop := billingPartsRow.holds Tryz.pinned (OpenSpec.ofChange billingPartsSpec)

/-- ITS FALSE NEIGHBOUR: 'it returns false'. Refute it at one input. -/
def billingPartsWrong : ChangeSpec := { name := "billingParts", fn := fun _ => fun
  | [d1, d2] => { results := [.lit (.bool false)], args := [d1, d2] }
  | _ => none }
def BillingPartsWrongFalsely : Prop := billingPartsRow.holds Tryz.pinned (OpenSpec.ofChange billingPartsWrong)

/-- 'impostlaw14.BillingRight': WHATEVER THE INPUT: true; the input reads as it did. -/
def billingRightSpec : ChangeSpec := { name := "billingRight", fn := fun _ => fun
  | [d] => { results := [.lit (.bool true)], args := [d] }
  | _ => none }
def billingRightRow : OpenClaim := { program := "ytjbicclbalagbaagreat", sum := "b405ade16233ab6f5301a36e791cea33400a5929d2090cad68ad7e29b1d118dd", func := "impost/impostlaw14.BillingRight", spec := "billingRight", inPlace := ["math/bits.Add64", "slices.overlaps[impost/api.Balance]", "slices.overlaps[impost/api.Session]", "slices.overlaps[impost/api.Series]", "slices.overlaps[impost/api.Rate]", "slices.overlaps[impost/api.Part]"], unfollowed := true, recurses := true, apart := false }
def BillingRightSaid : Prop := billingRightRow.holds Tryz.pinned (OpenSpec.ofChange billingRightSpec)

/-- ITS FALSE NEIGHBOUR: 'it returns false'. Refute it at one input. -/
def billingRightWrong : ChangeSpec := { name := "billingRight", fn := fun _ => fun
  | [d] => { results := [.lit (.bool false)], args := [d] }
  | _ => none }
def BillingRightWrongFalsely : Prop := billingRightRow.holds Tryz.pinned (OpenSpec.ofChange billingRightWrong)

/- THE SECOND FORM. 'bulk': how many values and letters a reading holds, each counted each time it is reached (what is shared counts as often as it is met; a slice's spare places count too). A statement '..UptoSaid' is the law's where the arguments, and the package variables that the reading takes, are together of bulk at most 1048576: NARROWER than '..Said'. Prove '..Said' where nothing that the law and all that it calls make is longer than what came in: it says more and counts as full. Else prove '..UptoSaid'. A law counts once. -/
mutual
def uptoBulk {H : Type} : DataW H → Nat
  | .lit (.string bytes) => bytes.length + 1
  | .lit _ => 1
  | .nil => 1
  | .ptr d => uptoBulk d + 1
  | .slice elems spare => uptoBulkAll elems + uptoBulkAll spare + 1
  | .agg parts => uptoBulkAll parts + 1
  | .iface _ d => uptoBulk d + 1
  | .map entries => uptoBulkEntries entries + 1
  | .held _ => 1
def uptoBulkAll {H : Type} : List (DataW H) → Nat
  | [] => 0
  | d :: r => uptoBulk d + uptoBulkAll r
def uptoBulkEntries {H : Type} : List (Lit × DataW H) → Nat
  | [] => 0
  | x :: r => uptoBulkEntry x + uptoBulkEntries r
def uptoBulkEntry {H : Type} : Lit × DataW H → Nat
  | (.string bytes, d) => bytes.length + uptoBulk d + 1
  | (_, d) => uptoBulk d + 1
 end
def uptoSmall : (H : Type) → List (DataW H) → Bool := fun _ ds => decide (uptoBulkAll ds ≤ 1048576)
def OpenSpec.upto (s : _root_.Go.ChangeSpec) : _root_.Go.OpenSpec := { _root_.Go.OpenSpec.ofChange s with cond := some uptoSmall }

/-- 'impostlaw14.BillingPlays', WHERE WHAT IT READS IS OF BULK AT MOST 1048576: true; the input reads as it did. -/
def billingPlaysUptoRow : OpenClaim := { program := "ytjbicclbalagbaagreat", sum := "b405ade16233ab6f5301a36e791cea33400a5929d2090cad68ad7e29b1d118dd", func := "impost/impostlaw14.BillingPlays", spec := "billingPlays", inPlace := ["math/bits.Add64", "slices.overlaps[impost/api.Balance]", "slices.overlaps[impost/api.Session]", "slices.overlaps[impost/api.Series]", "slices.overlaps[impost/api.Rate]", "slices.overlaps[impost/api.Part]"], unfollowed := true, recurses := true, apart := false, narrowed := true }
def BillingPlaysUptoSaid : Prop := billingPlaysUptoRow.holds Tryz.pinned (OpenSpec.upto billingPlaysSpec)

/-- 'impostlaw14.BillingAny', WHERE WHAT IT READS IS OF BULK AT MOST 1048576: true; the input reads as it did. -/
def billingAnyUptoRow : OpenClaim := { program := "ytjbicclbalagbaagreat", sum := "b405ade16233ab6f5301a36e791cea33400a5929d2090cad68ad7e29b1d118dd", func := "impost/impostlaw14.BillingAny", spec := "billingAny", inPlace := ["math/bits.Add64", "slices.overlaps[impost/api.Balance]", "slices.overlaps[impost/api.Session]", "slices.overlaps[impost/api.Series]", "slices.overlaps[impost/api.Rate]", "slices.overlaps[impost/api.Part]"], unfollowed := true, recurses := true, apart := false, narrowed := true }
def BillingAnyUptoSaid : Prop := billingAnyUptoRow.holds Tryz.pinned (OpenSpec.upto billingAnySpec)

/-- 'impostlaw14.BillingGapless', WHERE WHAT IT READS IS OF BULK AT MOST 1048576: true; the input reads as it did. -/
def billingGaplessUptoRow : OpenClaim := { program := "ytjbicclbalagbaagreat", sum := "b405ade16233ab6f5301a36e791cea33400a5929d2090cad68ad7e29b1d118dd", func := "impost/impostlaw14.BillingGapless", spec := "billingGapless", inPlace := ["math/bits.Add64", "slices.overlaps[impost/api.Balance]", "slices.overlaps[impost/api.Session]", "slices.overlaps[impost/api.Series]", "slices.overlaps[impost/api.Rate]", "slices.overlaps[impost/api.Part]"], unfollowed := true, recurses := true, apart := false, narrowed := true }
def BillingGaplessUptoSaid : Prop := billingGaplessUptoRow.holds Tryz.pinned (OpenSpec.upto billingGaplessSpec)

/-- 'impostlaw14.BillingAgain', WHERE WHAT IT READS IS OF BULK AT MOST 1048576: true; the input reads as it did. -/
def billingAgainUptoRow : OpenClaim := { program := "ytjbicclbalagbaagreat", sum := "b405ade16233ab6f5301a36e791cea33400a5929d2090cad68ad7e29b1d118dd", func := "impost/impostlaw14.BillingAgain", spec := "billingAgain", inPlace := ["math/bits.Add64", "slices.overlaps[impost/api.Balance]", "slices.overlaps[impost/api.Session]", "slices.overlaps[impost/api.Series]", "slices.overlaps[impost/api.Rate]", "slices.overlaps[impost/api.Part]"], unfollowed := true, recurses := true, apart := false, narrowed := true }
def BillingAgainUptoSaid : Prop := billingAgainUptoRow.holds Tryz.pinned (OpenSpec.upto billingAgainSpec)

/-- 'impostlaw14.BillingRefused', WHERE WHAT IT READS IS OF BULK AT MOST 1048576: true; the input reads as it did. -/
def billingRefusedUptoRow : OpenClaim := { program := "ytjbicclbalagbaagreat", sum := "b405ade16233ab6f5301a36e791cea33400a5929d2090cad68ad7e29b1d118dd", func := "impost/impostlaw14.BillingRefused", spec := "billingRefused", inPlace := ["math/bits.Add64", "slices.overlaps[impost/api.Balance]", "slices.overlaps[impost/api.Session]", "slices.overlaps[impost/api.Series]", "slices.overlaps[impost/api.Rate]", "slices.overlaps[impost/api.Part]"], unfollowed := true, recurses := true, apart := false, narrowed := true }
def BillingRefusedUptoSaid : Prop := billingRefusedUptoRow.holds Tryz.pinned (OpenSpec.upto billingRefusedSpec)

/-- 'impostlaw14.BillingOnce', WHERE WHAT IT READS IS OF BULK AT MOST 1048576: true; the input reads as it did. -/
def billingOnceUptoRow : OpenClaim := { program := "ytjbicclbalagbaagreat", sum := "b405ade16233ab6f5301a36e791cea33400a5929d2090cad68ad7e29b1d118dd", func := "impost/impostlaw14.BillingOnce", spec := "billingOnce", inPlace := ["math/bits.Add64", "slices.overlaps[impost/api.Balance]", "slices.overlaps[impost/api.Session]", "slices.overlaps[impost/api.Series]", "slices.overlaps[impost/api.Rate]", "slices.overlaps[impost/api.Part]"], unfollowed := true, recurses := true, apart := false, narrowed := true }
def BillingOnceUptoSaid : Prop := billingOnceUptoRow.holds Tryz.pinned (OpenSpec.upto billingOnceSpec)

/-- 'impostlaw14.BillingTaken', WHERE WHAT IT READS IS OF BULK AT MOST 1048576: true; the input reads as it did. -/
def billingTakenUptoRow : OpenClaim := { program := "ytjbicclbalagbaagreat", sum := "b405ade16233ab6f5301a36e791cea33400a5929d2090cad68ad7e29b1d118dd", func := "impost/impostlaw14.BillingTaken", spec := "billingTaken", inPlace := ["math/bits.Add64", "slices.overlaps[impost/api.Balance]", "slices.overlaps[impost/api.Session]", "slices.overlaps[impost/api.Series]", "slices.overlaps[impost/api.Rate]", "slices.overlaps[impost/api.Part]"], unfollowed := true, recurses := true, apart := false, narrowed := true }
def BillingTakenUptoSaid : Prop := billingTakenUptoRow.holds Tryz.pinned (OpenSpec.upto billingTakenSpec)

/-- 'impostlaw14.BillingLimit', WHERE WHAT IT READS IS OF BULK AT MOST 1048576: true; the input reads as it did. -/
def billingLimitUptoRow : OpenClaim := { program := "ytjbicclbalagbaagreat", sum := "b405ade16233ab6f5301a36e791cea33400a5929d2090cad68ad7e29b1d118dd", func := "impost/impostlaw14.BillingLimit", spec := "billingLimit", inPlace := ["math/bits.Add64", "slices.overlaps[impost/api.Balance]", "slices.overlaps[impost/api.Session]", "slices.overlaps[impost/api.Series]", "slices.overlaps[impost/api.Rate]", "slices.overlaps[impost/api.Part]"], unfollowed := true, recurses := true, apart := false, narrowed := true }
def BillingLimitUptoSaid : Prop := billingLimitUptoRow.holds Tryz.pinned (OpenSpec.upto billingLimitSpec)

/-- 'impostlaw14.BillingParts', WHERE WHAT IT READS IS OF BULK AT MOST 1048576: true; the input reads as it did. -/
def billingPartsUptoRow : OpenClaim := { program := "ytjbicclbalagbaagreat", sum := "b405ade16233ab6f5301a36e791cea33400a5929d2090cad68ad7e29b1d118dd", func := "impost/impostlaw14.BillingParts", spec := "billingParts", inPlace := ["math/bits.Add64", "slices.overlaps[impost/api.Balance]", "slices.overlaps[impost/api.Session]", "slices.overlaps[impost/api.Series]", "slices.overlaps[impost/api.Rate]", "slices.overlaps[impost/api.Part]"], unfollowed := true, recurses := true, apart := false, narrowed := true }
def BillingPartsUptoSaid : Prop := billingPartsUptoRow.holds Tryz.pinned (OpenSpec.upto billingPartsSpec)

/-- 'impostlaw14.BillingRight', WHERE WHAT IT READS IS OF BULK AT MOST 1048576: true; the input reads as it did. -/
def billingRightUptoRow : OpenClaim := { program := "ytjbicclbalagbaagreat", sum := "b405ade16233ab6f5301a36e791cea33400a5929d2090cad68ad7e29b1d118dd", func := "impost/impostlaw14.BillingRight", spec := "billingRight", inPlace := ["math/bits.Add64", "slices.overlaps[impost/api.Balance]", "slices.overlaps[impost/api.Session]", "slices.overlaps[impost/api.Series]", "slices.overlaps[impost/api.Rate]", "slices.overlaps[impost/api.Part]"], unfollowed := true, recurses := true, apart := false, narrowed := true }
def BillingRightUptoSaid : Prop := billingRightUptoRow.holds Tryz.pinned (OpenSpec.upto billingRightSpec)

end Rows
end Go.Proofs.YtjbicclbalagbaaGreat
