/-
  No cell of these rows narrows 'for every input' (looked for: loops, veiled, ifaces, maps, wideKeys, modest, calm, conditions, laid).
  DERIVED. THE GIVEN ROWS OF THIS SEAT. 16 by the template 'for every input the law returns true; each argument reads behind the call as it read before'; 0 by the template 'total and deterministic' (their statements: YtoaibmbldmckaaaGreatTotals.lean).
  GIVEN WITH THE SEED: the statements are not yours to turn. If you find one false, say at which input.
  Laid BY PROGRAM, IN A SANDBOX (cutbox-rows.mjs): the forced cells as the released guide's own fill.sh prints them over the translation a0d7bc0da0d5291d… (all of the seat's roots in one cut). By AI agents, Wed Nov 11 2026. No macro, syntax, notation, axiom, sorry.
-/
import Derived.Test.YtoaibmbldmckaaaGreatChecked
import GoSem.Claim
import GoSem.ClaimJoined
import GoSem.ClaimMapViews
import Derived.JoinedTies
import Derived.KernelRfl
namespace Go.Proofs.YtoaibmbldmckaaaGreat
/- THE CELL 'sum', in the pinned program and in every row, IS THE sha256 OF THE DUMP (.gsa) THAT YtoaibmbldmckaaaGreatProg.lean LOADS. Nothing in Lean hashes anything: it is a label: what it is worth is what the hold of that sum in a sandbox is worth. -/
noncomputable def Tryz.pinned : Pinned := { name := "ytoaibmbldmckaaagreat", sum := "a0d7bc0da0d5291d69b14591e176e9a79c0ce22cdccfaa94018e05f312dfe220", checked := Tryz.checked }
namespace Rows
def none {H : Type} : Left H := { results := [], args := [] }

/-- 'impostlaw15.ImageGets': WHATEVER THE INPUT: true; the input reads as it did. -/
def imageGetsSpec : ChangeSpec := { name := "imageGets", fn := fun _ => fun
  | [d] => { results := [.lit (.bool true)], args := [d] }
  | _ => none }
def imageGetsRow : OpenClaim := { program := "ytoaibmbldmckaaagreat", sum := "a0d7bc0da0d5291d69b14591e176e9a79c0ce22cdccfaa94018e05f312dfe220", func := "impost/impostlaw15.ImageGets", spec := "imageGets", inPlace := ["math/bits.Add64", "slices.overlaps[impost/api.Balance]"], unfollowed := true, recurses := true, apart := false }
def ImageGetsSaid : Prop := imageGetsRow.holds Tryz.pinned (OpenSpec.ofChange imageGetsSpec)

/-- ITS FALSE NEIGHBOUR: 'it returns false'. Refute it at one input. -/
def imageGetsWrong : ChangeSpec := { name := "imageGets", fn := fun _ => fun
  | [d] => { results := [.lit (.bool false)], args := [d] }
  | _ => none }
def ImageGetsWrongFalsely : Prop := imageGetsRow.holds Tryz.pinned (OpenSpec.ofChange imageGetsWrong)

/-- 'impostlaw15.ImageAny': WHATEVER THE INPUT: true; the input reads as it did. -/
def imageAnySpec : ChangeSpec := { name := "imageAny", fn := fun _ => fun
  | [d] => { results := [.lit (.bool true)], args := [d] }
  | _ => none }
def imageAnyRow : OpenClaim := { program := "ytoaibmbldmckaaagreat", sum := "a0d7bc0da0d5291d69b14591e176e9a79c0ce22cdccfaa94018e05f312dfe220", func := "impost/impostlaw15.ImageAny", spec := "imageAny", inPlace := ["math/bits.Add64", "slices.overlaps[impost/api.Balance]"], unfollowed := true, recurses := true, apart := false }
def ImageAnySaid : Prop := imageAnyRow.holds Tryz.pinned (OpenSpec.ofChange imageAnySpec)

/-- ITS FALSE NEIGHBOUR: 'it returns false'. Refute it at one input. -/
def imageAnyWrong : ChangeSpec := { name := "imageAny", fn := fun _ => fun
  | [d] => { results := [.lit (.bool false)], args := [d] }
  | _ => none }
def ImageAnyWrongFalsely : Prop := imageAnyRow.holds Tryz.pinned (OpenSpec.ofChange imageAnyWrong)

/-- 'impostlaw14.BillingPlays': WHATEVER THE INPUT: true; the input reads as it did. -/
def billingPlaysSpec : ChangeSpec := { name := "billingPlays", fn := fun _ => fun
  | [d] => { results := [.lit (.bool true)], args := [d] }
  | _ => none }
def billingPlaysRow : OpenClaim := { program := "ytoaibmbldmckaaagreat", sum := "a0d7bc0da0d5291d69b14591e176e9a79c0ce22cdccfaa94018e05f312dfe220", func := "impost/impostlaw14.BillingPlays", spec := "billingPlays", inPlace := ["math/bits.Add64", "slices.overlaps[impost/api.Balance]", "slices.overlaps[impost/api.Session]", "slices.overlaps[impost/api.Series]", "slices.overlaps[impost/api.Rate]", "slices.overlaps[impost/api.Part]"], unfollowed := true, recurses := true, apart := false }
def BillingPlaysSaid : Prop := billingPlaysRow.holds Tryz.pinned (OpenSpec.ofChange billingPlaysSpec)

/-- ITS FALSE NEIGHBOUR: 'it returns false'. Refute it at one input. -/
def billingPlaysWrong : ChangeSpec := { name := "billingPlays", fn := fun _ => fun
  | [d] => { results := [.lit (.bool false)], args := [d] }
  | _ => none }
def BillingPlaysWrongFalsely : Prop := billingPlaysRow.holds Tryz.pinned (OpenSpec.ofChange billingPlaysWrong)

/-- 'impostlaw14.BillingAny': WHATEVER THE INPUT: true; the input reads as it did. -/
def billingAnySpec : ChangeSpec := { name := "billingAny", fn := fun _ => fun
  | [d1, d2] => { results := [.lit (.bool true)], args := [d1, d2] }
  | _ => none }
def billingAnyRow : OpenClaim := { program := "ytoaibmbldmckaaagreat", sum := "a0d7bc0da0d5291d69b14591e176e9a79c0ce22cdccfaa94018e05f312dfe220", func := "impost/impostlaw14.BillingAny", spec := "billingAny", inPlace := ["math/bits.Add64", "slices.overlaps[impost/api.Balance]", "slices.overlaps[impost/api.Session]", "slices.overlaps[impost/api.Series]", "slices.overlaps[impost/api.Rate]", "slices.overlaps[impost/api.Part]"], unfollowed := true, recurses := true, apart := false }
def BillingAnySaid : Prop := billingAnyRow.holds Tryz.pinned (OpenSpec.ofChange billingAnySpec)

/-- ITS FALSE NEIGHBOUR: 'it returns false'. Refute it at one input. -/
def billingAnyWrong : ChangeSpec := { name := "billingAny", fn := fun _ => fun
  | [d1, d2] => { results := [.lit (.bool false)], args := [d1, d2] }
  | _ => none }
def BillingAnyWrongFalsely : Prop := billingAnyRow.holds Tryz.pinned (OpenSpec.ofChange billingAnyWrong)

/-- 'impostlaw29.AuditTells': WHATEVER THE INPUT: true; the input reads as it did. -/
def auditTellsSpec : ChangeSpec := { name := "auditTells", fn := fun _ => fun
  | [d1, d2, d3, d4] => { results := [.lit (.bool true)], args := [d1, d2, d3, d4] }
  | _ => none }
def auditTellsRow : OpenClaim := { program := "ytoaibmbldmckaaagreat", sum := "a0d7bc0da0d5291d69b14591e176e9a79c0ce22cdccfaa94018e05f312dfe220", func := "impost/impostlaw29.AuditTells", spec := "auditTells", inPlace := ["math/bits.Add64", "slices.overlaps[impost/api.Balance]", "slices.overlaps[impost/api.Session]", "slices.overlaps[impost/api.Series]", "slices.overlaps[impost/api.Rate]", "slices.overlaps[impost/api.Part]", "slices.overlaps[impost/audit.Row]"], unfollowed := true, recurses := true, apart := false }
def AuditTellsSaid : Prop := auditTellsRow.holds Tryz.pinned (OpenSpec.ofChange auditTellsSpec)

/-- ITS FALSE NEIGHBOUR: 'it returns false'. Refute it at one input. -/
def auditTellsWrong : ChangeSpec := { name := "auditTells", fn := fun _ => fun
  | [d1, d2, d3, d4] => { results := [.lit (.bool false)], args := [d1, d2, d3, d4] }
  | _ => none }
def AuditTellsWrongFalsely : Prop := auditTellsRow.holds Tryz.pinned (OpenSpec.ofChange auditTellsWrong)

/-- 'impostlaw29.AuditGapless': WHATEVER THE INPUT: true; the input reads as it did. -/
def auditGaplessSpec : ChangeSpec := { name := "auditGapless", fn := fun _ => fun
  | [d1, d2] => { results := [.lit (.bool true)], args := [d1, d2] }
  | _ => none }
def auditGaplessRow : OpenClaim := { program := "ytoaibmbldmckaaagreat", sum := "a0d7bc0da0d5291d69b14591e176e9a79c0ce22cdccfaa94018e05f312dfe220", func := "impost/impostlaw29.AuditGapless", spec := "auditGapless", inPlace := ["math/bits.Add64", "slices.overlaps[impost/api.Balance]", "slices.overlaps[impost/api.Session]", "slices.overlaps[impost/api.Series]", "slices.overlaps[impost/api.Rate]", "slices.overlaps[impost/api.Part]", "slices.overlaps[impost/audit.Row]"], unfollowed := true, recurses := true, apart := false }
def AuditGaplessSaid : Prop := auditGaplessRow.holds Tryz.pinned (OpenSpec.ofChange auditGaplessSpec)

/-- ITS FALSE NEIGHBOUR: 'it returns false'. Refute it at one input. -/
def auditGaplessWrong : ChangeSpec := { name := "auditGapless", fn := fun _ => fun
  | [d1, d2] => { results := [.lit (.bool false)], args := [d1, d2] }
  | _ => none }
def AuditGaplessWrongFalsely : Prop := auditGaplessRow.holds Tryz.pinned (OpenSpec.ofChange auditGaplessWrong)

/-- 'impostlaw29.AuditBook': WHATEVER THE INPUT: true; the input reads as it did. -/
def auditBookSpec : ChangeSpec := { name := "auditBook", fn := fun _ => fun
  | [d1, d2] => { results := [.lit (.bool true)], args := [d1, d2] }
  | _ => none }
def auditBookRow : OpenClaim := { program := "ytoaibmbldmckaaagreat", sum := "a0d7bc0da0d5291d69b14591e176e9a79c0ce22cdccfaa94018e05f312dfe220", func := "impost/impostlaw29.AuditBook", spec := "auditBook", inPlace := ["math/bits.Add64", "slices.overlaps[impost/api.Balance]", "slices.overlaps[impost/api.Session]", "slices.overlaps[impost/api.Series]", "slices.overlaps[impost/api.Rate]", "slices.overlaps[impost/api.Part]", "slices.overlaps[impost/audit.Row]"], unfollowed := true, recurses := true, apart := false }
def AuditBookSaid : Prop := auditBookRow.holds Tryz.pinned (OpenSpec.ofChange auditBookSpec)

/-- ITS FALSE NEIGHBOUR: 'it returns false'. Refute it at one input. -/
def auditBookWrong : ChangeSpec := { name := "auditBook", fn := fun _ => fun
  | [d1, d2] => { results := [.lit (.bool false)], args := [d1, d2] }
  | _ => none }
def AuditBookWrongFalsely : Prop := auditBookRow.holds Tryz.pinned (OpenSpec.ofChange auditBookWrong)

/-- 'impostlaw29.AuditRises': WHATEVER THE INPUT: true; the input reads as it did. -/
def auditRisesSpec : ChangeSpec := { name := "auditRises", fn := fun _ => fun
  | [d1, d2, d3] => { results := [.lit (.bool true)], args := [d1, d2, d3] }
  | _ => none }
def auditRisesRow : OpenClaim := { program := "ytoaibmbldmckaaagreat", sum := "a0d7bc0da0d5291d69b14591e176e9a79c0ce22cdccfaa94018e05f312dfe220", func := "impost/impostlaw29.AuditRises", spec := "auditRises", inPlace := ["math/bits.Add64", "slices.overlaps[impost/api.Balance]", "slices.overlaps[impost/api.Session]", "slices.overlaps[impost/api.Series]", "slices.overlaps[impost/api.Rate]", "slices.overlaps[impost/api.Part]", "slices.overlaps[impost/audit.Row]"], unfollowed := true, recurses := true, apart := false }
def AuditRisesSaid : Prop := auditRisesRow.holds Tryz.pinned (OpenSpec.ofChange auditRisesSpec)

/-- ITS FALSE NEIGHBOUR: 'it returns false'. Refute it at one input. -/
def auditRisesWrong : ChangeSpec := { name := "auditRises", fn := fun _ => fun
  | [d1, d2, d3] => { results := [.lit (.bool false)], args := [d1, d2, d3] }
  | _ => none }
def AuditRisesWrongFalsely : Prop := auditRisesRow.holds Tryz.pinned (OpenSpec.ofChange auditRisesWrong)

/-- 'impostlaw29.AuditSpans': WHATEVER THE INPUT: true; the input reads as it did. -/
def auditSpansSpec : ChangeSpec := { name := "auditSpans", fn := fun _ => fun
  | [d1, d2, d3, d4] => { results := [.lit (.bool true)], args := [d1, d2, d3, d4] }
  | _ => none }
def auditSpansRow : OpenClaim := { program := "ytoaibmbldmckaaagreat", sum := "a0d7bc0da0d5291d69b14591e176e9a79c0ce22cdccfaa94018e05f312dfe220", func := "impost/impostlaw29.AuditSpans", spec := "auditSpans", inPlace := ["math/bits.Add64", "slices.overlaps[impost/api.Balance]", "slices.overlaps[impost/api.Session]", "slices.overlaps[impost/api.Series]", "slices.overlaps[impost/api.Rate]", "slices.overlaps[impost/api.Part]", "slices.overlaps[impost/audit.Row]"], unfollowed := true, recurses := true, apart := false }
def AuditSpansSaid : Prop := auditSpansRow.holds Tryz.pinned (OpenSpec.ofChange auditSpansSpec)

/-- ITS FALSE NEIGHBOUR: 'it returns false'. Refute it at one input. -/
def auditSpansWrong : ChangeSpec := { name := "auditSpans", fn := fun _ => fun
  | [d1, d2, d3, d4] => { results := [.lit (.bool false)], args := [d1, d2, d3, d4] }
  | _ => none }
def AuditSpansWrongFalsely : Prop := auditSpansRow.holds Tryz.pinned (OpenSpec.ofChange auditSpansWrong)

/-- 'impostlaw27.HistoryTells': WHATEVER THE INPUT: true; the input reads as it did. -/
def historyTellsSpec : ChangeSpec := { name := "historyTells", fn := fun _ => fun
  | [d1, d2, d3] => { results := [.lit (.bool true)], args := [d1, d2, d3] }
  | _ => none }
def historyTellsRow : OpenClaim := { program := "ytoaibmbldmckaaagreat", sum := "a0d7bc0da0d5291d69b14591e176e9a79c0ce22cdccfaa94018e05f312dfe220", func := "impost/impostlaw27.HistoryTells", spec := "historyTells", inPlace := ["math/bits.Add64", "slices.overlaps[impost/api.Balance]", "slices.overlaps[impost/api.Session]", "slices.overlaps[impost/api.Series]", "slices.overlaps[impost/api.Rate]", "slices.overlaps[impost/api.Part]"], unfollowed := true, recurses := true, apart := false }
def HistoryTellsSaid : Prop := historyTellsRow.holds Tryz.pinned (OpenSpec.ofChange historyTellsSpec)

/-- ITS FALSE NEIGHBOUR: 'it returns false'. Refute it at one input. -/
def historyTellsWrong : ChangeSpec := { name := "historyTells", fn := fun _ => fun
  | [d1, d2, d3] => { results := [.lit (.bool false)], args := [d1, d2, d3] }
  | _ => none }
def HistoryTellsWrongFalsely : Prop := historyTellsRow.holds Tryz.pinned (OpenSpec.ofChange historyTellsWrong)

/-- 'impostlaw15.ImagePuts': WHATEVER THE INPUT: true; the input reads as it did. -/
def imagePutsSpec : ChangeSpec := { name := "imagePuts", fn := fun _ => fun
  | [d] => { results := [.lit (.bool true)], args := [d] }
  | _ => none }
def imagePutsRow : OpenClaim := { program := "ytoaibmbldmckaaagreat", sum := "a0d7bc0da0d5291d69b14591e176e9a79c0ce22cdccfaa94018e05f312dfe220", func := "impost/impostlaw15.ImagePuts", spec := "imagePuts", inPlace := ["math/bits.Add64", "slices.overlaps[impost/api.Balance]", "slices.overlaps[impost/api.Session]", "slices.overlaps[impost/api.Series]", "slices.overlaps[impost/api.Rate]", "slices.overlaps[impost/api.Part]"], unfollowed := true, recurses := true, apart := false }
def ImagePutsSaid : Prop := imagePutsRow.holds Tryz.pinned (OpenSpec.ofChange imagePutsSpec)

/-- ITS FALSE NEIGHBOUR: 'it returns false'. Refute it at one input. -/
def imagePutsWrong : ChangeSpec := { name := "imagePuts", fn := fun _ => fun
  | [d] => { results := [.lit (.bool false)], args := [d] }
  | _ => none }
def ImagePutsWrongFalsely : Prop := imagePutsRow.holds Tryz.pinned (OpenSpec.ofChange imagePutsWrong)

/-- 'impostlaw15.ImageTurned': WHATEVER THE INPUT: true; the input reads as it did. -/
def imageTurnedSpec : ChangeSpec := { name := "imageTurned", fn := fun _ => fun
  | [d1, d2, d3, d4] => { results := [.lit (.bool true)], args := [d1, d2, d3, d4] }
  | _ => none }
def imageTurnedRow : OpenClaim := { program := "ytoaibmbldmckaaagreat", sum := "a0d7bc0da0d5291d69b14591e176e9a79c0ce22cdccfaa94018e05f312dfe220", func := "impost/impostlaw15.ImageTurned", spec := "imageTurned", inPlace := ["math/bits.Add64", "slices.overlaps[impost/api.Balance]", "slices.overlaps[impost/api.Session]", "slices.overlaps[impost/api.Series]", "slices.overlaps[impost/api.Rate]", "slices.overlaps[impost/api.Part]"], unfollowed := true, recurses := true, apart := false }
def ImageTurnedSaid : Prop := imageTurnedRow.holds Tryz.pinned (OpenSpec.ofChange imageTurnedSpec)

/-- ITS FALSE NEIGHBOUR: 'it returns false'. Refute it at one input. -/
def imageTurnedWrong : ChangeSpec := { name := "imageTurned", fn := fun _ => fun
  | [d1, d2, d3, d4] => { results := [.lit (.bool false)], args := [d1, d2, d3, d4] }
  | _ => none }
def ImageTurnedWrongFalsely : Prop := imageTurnedRow.holds Tryz.pinned (OpenSpec.ofChange imageTurnedWrong)

/-- 'impostlaw15.ImageBack': WHATEVER THE INPUT: true; the input reads as it did. -/
def imageBackSpec : ChangeSpec := { name := "imageBack", fn := fun _ => fun
  | [d1, d2, d3] => { results := [.lit (.bool true)], args := [d1, d2, d3] }
  | _ => none }
def imageBackRow : OpenClaim := { program := "ytoaibmbldmckaaagreat", sum := "a0d7bc0da0d5291d69b14591e176e9a79c0ce22cdccfaa94018e05f312dfe220", func := "impost/impostlaw15.ImageBack", spec := "imageBack", inPlace := ["math/bits.Add64", "slices.overlaps[impost/api.Balance]", "slices.overlaps[impost/api.Session]", "slices.overlaps[impost/api.Series]", "slices.overlaps[impost/api.Rate]", "slices.overlaps[impost/api.Part]"], unfollowed := true, recurses := true, apart := false }
def ImageBackSaid : Prop := imageBackRow.holds Tryz.pinned (OpenSpec.ofChange imageBackSpec)

/-- ITS FALSE NEIGHBOUR: 'it returns false'. Refute it at one input. -/
def imageBackWrong : ChangeSpec := { name := "imageBack", fn := fun _ => fun
  | [d1, d2, d3] => { results := [.lit (.bool false)], args := [d1, d2, d3] }
  | _ => none }
def ImageBackWrongFalsely : Prop := imageBackRow.holds Tryz.pinned (OpenSpec.ofChange imageBackWrong)

/-- 'impostlaw15.ImageSmall': WHATEVER THE INPUT: true; the input reads as it did. -/
def imageSmallSpec : ChangeSpec := { name := "imageSmall", fn := fun _ => fun
  | [d1, d2] => { results := [.lit (.bool true)], args := [d1, d2] }
  | _ => none }
def imageSmallRow : OpenClaim := { program := "ytoaibmbldmckaaagreat", sum := "a0d7bc0da0d5291d69b14591e176e9a79c0ce22cdccfaa94018e05f312dfe220", func := "impost/impostlaw15.ImageSmall", spec := "imageSmall", inPlace := ["math/bits.Add64", "slices.overlaps[impost/api.Balance]", "slices.overlaps[impost/api.Session]", "slices.overlaps[impost/api.Series]", "slices.overlaps[impost/api.Rate]", "slices.overlaps[impost/api.Part]"], unfollowed := true, recurses := true, apart := false }
def ImageSmallSaid : Prop := imageSmallRow.holds Tryz.pinned (OpenSpec.ofChange imageSmallSpec)

/-- ITS FALSE NEIGHBOUR: 'it returns false'. Refute it at one input. -/
def imageSmallWrong : ChangeSpec := { name := "imageSmall", fn := fun _ => fun
  | [d1, d2] => { results := [.lit (.bool false)], args := [d1, d2] }
  | _ => none }
def ImageSmallWrongFalsely : Prop := imageSmallRow.holds Tryz.pinned (OpenSpec.ofChange imageSmallWrong)

/-- 'impostlaw27.HistoryFits': WHATEVER THE INPUT: true; the input reads as it did. -/
def historyFitsSpec : ChangeSpec := { name := "historyFits", fn := fun _ => fun
  | [d1, d2, d3] => { results := [.lit (.bool true)], args := [d1, d2, d3] }
  | _ => none }
def historyFitsRow : OpenClaim := { program := "ytoaibmbldmckaaagreat", sum := "a0d7bc0da0d5291d69b14591e176e9a79c0ce22cdccfaa94018e05f312dfe220", func := "impost/impostlaw27.HistoryFits", spec := "historyFits", inPlace := ["math/bits.Add64", "slices.overlaps[impost/api.Balance]", "slices.overlaps[impost/api.Session]", "slices.overlaps[impost/api.Series]", "slices.overlaps[impost/api.Rate]", "slices.overlaps[impost/api.Part]"], unfollowed := true, recurses := true, apart := false }
def HistoryFitsSaid : Prop := historyFitsRow.holds Tryz.pinned (OpenSpec.ofChange historyFitsSpec)

/-- ITS FALSE NEIGHBOUR: 'it returns false'. Refute it at one input. -/
def historyFitsWrong : ChangeSpec := { name := "historyFits", fn := fun _ => fun
  | [d1, d2, d3] => { results := [.lit (.bool false)], args := [d1, d2, d3] }
  | _ => none }
def HistoryFitsWrongFalsely : Prop := historyFitsRow.holds Tryz.pinned (OpenSpec.ofChange historyFitsWrong)

/-- 'impostlaw27.HistoryCalls': WHATEVER THE INPUT: true; the input reads as it did. -/
def historyCallsSpec : ChangeSpec := { name := "historyCalls", fn := fun _ => fun
  | [d1, d2] => { results := [.lit (.bool true)], args := [d1, d2] }
  | _ => none }
def historyCallsRow : OpenClaim := { program := "ytoaibmbldmckaaagreat", sum := "a0d7bc0da0d5291d69b14591e176e9a79c0ce22cdccfaa94018e05f312dfe220", func := "impost/impostlaw27.HistoryCalls", spec := "historyCalls", inPlace := ["math/bits.Add64", "slices.overlaps[impost/api.Balance]", "slices.overlaps[impost/api.Session]", "slices.overlaps[impost/api.Series]", "slices.overlaps[impost/api.Rate]", "slices.overlaps[impost/api.Part]"], unfollowed := true, recurses := true, apart := false }
def HistoryCallsSaid : Prop := historyCallsRow.holds Tryz.pinned (OpenSpec.ofChange historyCallsSpec)

/-- ITS FALSE NEIGHBOUR: 'it returns false'. Refute it at one input. -/
def historyCallsWrong : ChangeSpec := { name := "historyCalls", fn := fun _ => fun
  | [d1, d2] => { results := [.lit (.bool false)], args := [d1, d2] }
  | _ => none }
def HistoryCallsWrongFalsely : Prop := historyCallsRow.holds Tryz.pinned (OpenSpec.ofChange historyCallsWrong)

/- THE SECOND FORM. 'bulk': how many values and letters a reading holds, each counted each time it is reached (what is shared counts as often as it is met; a slice's spare places count too). A statement '..UptoSaid' is the law's where the arguments, and the package variables that the reading takes, are together of bulk at most 1048576: NARROWER than '..Said'. Prove '..Said' where nothing that the law and all that it calls make is longer than what came in: it says more and counts as full. Else prove '..UptoSaid'. A law counts once. -/
mutual
def uptoBulk {H : Type} : DataW H → Nat
  | .lit (.string bytes) => bytes.length + 1
  | .lit _ => 1
  | .nil => 1
  | .ptr d => uptoBulk d + 1
  | .slice elems spare => uptoBulkAll elems + uptoBulkAll spare + 1
  | .agg parts => uptoBulkAll parts + 1
  | .iface _ d => uptoBulk d + 1
  | .map entries => uptoBulkEntries entries + 1
  | .held _ => 1
def uptoBulkAll {H : Type} : List (DataW H) → Nat
  | [] => 0
  | d :: r => uptoBulk d + uptoBulkAll r
def uptoBulkEntries {H : Type} : List (Lit × DataW H) → Nat
  | [] => 0
  | x :: r => uptoBulkEntry x + uptoBulkEntries r
def uptoBulkEntry {H : Type} : Lit × DataW H → Nat
  | (.string bytes, d) => bytes.length + uptoBulk d + 1
  | (_, d) => uptoBulk d + 1
 end
def uptoSmall : (H : Type) → List (DataW H) → Bool := fun _ ds => decide (uptoBulkAll ds ≤ 1048576)
def OpenSpec.upto (s : _root_.Go.ChangeSpec) : _root_.Go.OpenSpec := { _root_.Go.OpenSpec.ofChange s with cond := some uptoSmall }

/-- 'impostlaw15.ImageGets', WHERE WHAT IT READS IS OF BULK AT MOST 1048576: true; the input reads as it did. -/
def imageGetsUptoRow : OpenClaim := { program := "ytoaibmbldmckaaagreat", sum := "a0d7bc0da0d5291d69b14591e176e9a79c0ce22cdccfaa94018e05f312dfe220", func := "impost/impostlaw15.ImageGets", spec := "imageGets", inPlace := ["math/bits.Add64", "slices.overlaps[impost/api.Balance]"], unfollowed := true, recurses := true, apart := false, narrowed := true }
def ImageGetsUptoSaid : Prop := imageGetsUptoRow.holds Tryz.pinned (OpenSpec.upto imageGetsSpec)

/-- 'impostlaw15.ImageAny', WHERE WHAT IT READS IS OF BULK AT MOST 1048576: true; the input reads as it did. -/
def imageAnyUptoRow : OpenClaim := { program := "ytoaibmbldmckaaagreat", sum := "a0d7bc0da0d5291d69b14591e176e9a79c0ce22cdccfaa94018e05f312dfe220", func := "impost/impostlaw15.ImageAny", spec := "imageAny", inPlace := ["math/bits.Add64", "slices.overlaps[impost/api.Balance]"], unfollowed := true, recurses := true, apart := false, narrowed := true }
def ImageAnyUptoSaid : Prop := imageAnyUptoRow.holds Tryz.pinned (OpenSpec.upto imageAnySpec)

/-- 'impostlaw14.BillingPlays', WHERE WHAT IT READS IS OF BULK AT MOST 1048576: true; the input reads as it did. -/
def billingPlaysUptoRow : OpenClaim := { program := "ytoaibmbldmckaaagreat", sum := "a0d7bc0da0d5291d69b14591e176e9a79c0ce22cdccfaa94018e05f312dfe220", func := "impost/impostlaw14.BillingPlays", spec := "billingPlays", inPlace := ["math/bits.Add64", "slices.overlaps[impost/api.Balance]", "slices.overlaps[impost/api.Session]", "slices.overlaps[impost/api.Series]", "slices.overlaps[impost/api.Rate]", "slices.overlaps[impost/api.Part]"], unfollowed := true, recurses := true, apart := false, narrowed := true }
def BillingPlaysUptoSaid : Prop := billingPlaysUptoRow.holds Tryz.pinned (OpenSpec.upto billingPlaysSpec)

/-- 'impostlaw14.BillingAny', WHERE WHAT IT READS IS OF BULK AT MOST 1048576: true; the input reads as it did. -/
def billingAnyUptoRow : OpenClaim := { program := "ytoaibmbldmckaaagreat", sum := "a0d7bc0da0d5291d69b14591e176e9a79c0ce22cdccfaa94018e05f312dfe220", func := "impost/impostlaw14.BillingAny", spec := "billingAny", inPlace := ["math/bits.Add64", "slices.overlaps[impost/api.Balance]", "slices.overlaps[impost/api.Session]", "slices.overlaps[impost/api.Series]", "slices.overlaps[impost/api.Rate]", "slices.overlaps[impost/api.Part]"], unfollowed := true, recurses := true, apart := false, narrowed := true }
def BillingAnyUptoSaid : Prop := billingAnyUptoRow.holds Tryz.pinned (OpenSpec.upto billingAnySpec)

/-- 'impostlaw29.AuditTells', WHERE WHAT IT READS IS OF BULK AT MOST 1048576: true; the input reads as it did. -/
def auditTellsUptoRow : OpenClaim := { program := "ytoaibmbldmckaaagreat", sum := "a0d7bc0da0d5291d69b14591e176e9a79c0ce22cdccfaa94018e05f312dfe220", func := "impost/impostlaw29.AuditTells", spec := "auditTells", inPlace := ["math/bits.Add64", "slices.overlaps[impost/api.Balance]", "slices.overlaps[impost/api.Session]", "slices.overlaps[impost/api.Series]", "slices.overlaps[impost/api.Rate]", "slices.overlaps[impost/api.Part]", "slices.overlaps[impost/audit.Row]"], unfollowed := true, recurses := true, apart := false, narrowed := true }
def AuditTellsUptoSaid : Prop := auditTellsUptoRow.holds Tryz.pinned (OpenSpec.upto auditTellsSpec)

/-- 'impostlaw29.AuditGapless', WHERE WHAT IT READS IS OF BULK AT MOST 1048576: true; the input reads as it did. -/
def auditGaplessUptoRow : OpenClaim := { program := "ytoaibmbldmckaaagreat", sum := "a0d7bc0da0d5291d69b14591e176e9a79c0ce22cdccfaa94018e05f312dfe220", func := "impost/impostlaw29.AuditGapless", spec := "auditGapless", inPlace := ["math/bits.Add64", "slices.overlaps[impost/api.Balance]", "slices.overlaps[impost/api.Session]", "slices.overlaps[impost/api.Series]", "slices.overlaps[impost/api.Rate]", "slices.overlaps[impost/api.Part]", "slices.overlaps[impost/audit.Row]"], unfollowed := true, recurses := true, apart := false, narrowed := true }
def AuditGaplessUptoSaid : Prop := auditGaplessUptoRow.holds Tryz.pinned (OpenSpec.upto auditGaplessSpec)

/-- 'impostlaw29.AuditBook', WHERE WHAT IT READS IS OF BULK AT MOST 1048576: true; the input reads as it did. -/
def auditBookUptoRow : OpenClaim := { program := "ytoaibmbldmckaaagreat", sum := "a0d7bc0da0d5291d69b14591e176e9a79c0ce22cdccfaa94018e05f312dfe220", func := "impost/impostlaw29.AuditBook", spec := "auditBook", inPlace := ["math/bits.Add64", "slices.overlaps[impost/api.Balance]", "slices.overlaps[impost/api.Session]", "slices.overlaps[impost/api.Series]", "slices.overlaps[impost/api.Rate]", "slices.overlaps[impost/api.Part]", "slices.overlaps[impost/audit.Row]"], unfollowed := true, recurses := true, apart := false, narrowed := true }
def AuditBookUptoSaid : Prop := auditBookUptoRow.holds Tryz.pinned (OpenSpec.upto auditBookSpec)

/-- 'impostlaw29.AuditRises', WHERE WHAT IT READS IS OF BULK AT MOST 1048576: true; the input reads as it did. -/
def auditRisesUptoRow : OpenClaim := { program := "ytoaibmbldmckaaagreat", sum := "a0d7bc0da0d5291d69b14591e176e9a79c0ce22cdccfaa94018e05f312dfe220", func := "impost/impostlaw29.AuditRises", spec := "auditRises", inPlace := ["math/bits.Add64", "slices.overlaps[impost/api.Balance]", "slices.overlaps[impost/api.Session]", "slices.overlaps[impost/api.Series]", "slices.overlaps[impost/api.Rate]", "slices.overlaps[impost/api.Part]", "slices.overlaps[impost/audit.Row]"], unfollowed := true, recurses := true, apart := false, narrowed := true }
def AuditRisesUptoSaid : Prop := auditRisesUptoRow.holds Tryz.pinned (OpenSpec.upto auditRisesSpec)

/-- 'impostlaw29.AuditSpans', WHERE WHAT IT READS IS OF BULK AT MOST 1048576: true; the input reads as it did. -/
def auditSpansUptoRow : OpenClaim := { program := "ytoaibmbldmckaaagreat", sum := "a0d7bc0da0d5291d69b14591e176e9a79c0ce22cdccfaa94018e05f312dfe220", func := "impost/impostlaw29.AuditSpans", spec := "auditSpans", inPlace := ["math/bits.Add64", "slices.overlaps[impost/api.Balance]", "slices.overlaps[impost/api.Session]", "slices.overlaps[impost/api.Series]", "slices.overlaps[impost/api.Rate]", "slices.overlaps[impost/api.Part]", "slices.overlaps[impost/audit.Row]"], unfollowed := true, recurses := true, apart := false, narrowed := true }
def AuditSpansUptoSaid : Prop := auditSpansUptoRow.holds Tryz.pinned (OpenSpec.upto auditSpansSpec)

/-- 'impostlaw27.HistoryTells', WHERE WHAT IT READS IS OF BULK AT MOST 1048576: true; the input reads as it did. -/
def historyTellsUptoRow : OpenClaim := { program := "ytoaibmbldmckaaagreat", sum := "a0d7bc0da0d5291d69b14591e176e9a79c0ce22cdccfaa94018e05f312dfe220", func := "impost/impostlaw27.HistoryTells", spec := "historyTells", inPlace := ["math/bits.Add64", "slices.overlaps[impost/api.Balance]", "slices.overlaps[impost/api.Session]", "slices.overlaps[impost/api.Series]", "slices.overlaps[impost/api.Rate]", "slices.overlaps[impost/api.Part]"], unfollowed := true, recurses := true, apart := false, narrowed := true }
def HistoryTellsUptoSaid : Prop := historyTellsUptoRow.holds Tryz.pinned (OpenSpec.upto historyTellsSpec)

/-- 'impostlaw15.ImagePuts', WHERE WHAT IT READS IS OF BULK AT MOST 1048576: true; the input reads as it did. -/
def imagePutsUptoRow : OpenClaim := { program := "ytoaibmbldmckaaagreat", sum := "a0d7bc0da0d5291d69b14591e176e9a79c0ce22cdccfaa94018e05f312dfe220", func := "impost/impostlaw15.ImagePuts", spec := "imagePuts", inPlace := ["math/bits.Add64", "slices.overlaps[impost/api.Balance]", "slices.overlaps[impost/api.Session]", "slices.overlaps[impost/api.Series]", "slices.overlaps[impost/api.Rate]", "slices.overlaps[impost/api.Part]"], unfollowed := true, recurses := true, apart := false, narrowed := true }
def ImagePutsUptoSaid : Prop := imagePutsUptoRow.holds Tryz.pinned (OpenSpec.upto imagePutsSpec)

/-- 'impostlaw15.ImageTurned', WHERE WHAT IT READS IS OF BULK AT MOST 1048576: true; the input reads as it did. -/
def imageTurnedUptoRow : OpenClaim := { program := "ytoaibmbldmckaaagreat", sum := "a0d7bc0da0d5291d69b14591e176e9a79c0ce22cdccfaa94018e05f312dfe220", func := "impost/impostlaw15.ImageTurned", spec := "imageTurned", inPlace := ["math/bits.Add64", "slices.overlaps[impost/api.Balance]", "slices.overlaps[impost/api.Session]", "slices.overlaps[impost/api.Series]", "slices.overlaps[impost/api.Rate]", "slices.overlaps[impost/api.Part]"], unfollowed := true, recurses := true, apart := false, narrowed := true }
def ImageTurnedUptoSaid : Prop := imageTurnedUptoRow.holds Tryz.pinned (OpenSpec.upto imageTurnedSpec)

/-- 'impostlaw15.ImageBack', WHERE WHAT IT READS IS OF BULK AT MOST 1048576: true; the input reads as it did. -/
def imageBackUptoRow : OpenClaim := { program := "ytoaibmbldmckaaagreat", sum := "a0d7bc0da0d5291d69b14591e176e9a79c0ce22cdccfaa94018e05f312dfe220", func := "impost/impostlaw15.ImageBack", spec := "imageBack", inPlace := ["math/bits.Add64", "slices.overlaps[impost/api.Balance]", "slices.overlaps[impost/api.Session]", "slices.overlaps[impost/api.Series]", "slices.overlaps[impost/api.Rate]", "slices.overlaps[impost/api.Part]"], unfollowed := true, recurses := true, apart := false, narrowed := true }
def ImageBackUptoSaid : Prop := imageBackUptoRow.holds Tryz.pinned (OpenSpec.upto imageBackSpec)

/-- 'impostlaw15.ImageSmall', WHERE WHAT IT READS IS OF BULK AT MOST 1048576: true; the input reads as it did. -/
def imageSmallUptoRow : OpenClaim := { program := "ytoaibmbldmckaaagreat", sum := "a0d7bc0da0d5291d69b14591e176e9a79c0ce22cdccfaa94018e05f312dfe220", func := "impost/impostlaw15.ImageSmall", spec := "imageSmall", inPlace := ["math/bits.Add64", "slices.overlaps[impost/api.Balance]", "slices.overlaps[impost/api.Session]", "slices.overlaps[impost/api.Series]", "slices.overlaps[impost/api.Rate]", "slices.overlaps[impost/api.Part]"], unfollowed := true, recurses := true, apart := false, narrowed := true }
def ImageSmallUptoSaid : Prop := imageSmallUptoRow.holds Tryz.pinned (OpenSpec.upto imageSmallSpec)

/-- 'impostlaw27.HistoryFits', WHERE WHAT IT READS IS OF BULK AT MOST 1048576: true; the input reads as it did. -/
def historyFitsUptoRow : OpenClaim := { program := "ytoaibmbldmckaaagreat", sum := "a0d7bc0da0d5291d69b14591e176e9a79c0ce22cdccfaa94018e05f312dfe220", func := "impost/impostlaw27.HistoryFits", spec := "historyFits", inPlace := ["math/bits.Add64", "slices.overlaps[impost/api.Balance]", "slices.overlaps[impost/api.Session]", "slices.overlaps[impost/api.Series]", "slices.overlaps[impost/api.Rate]", "slices.overlaps[impost/api.Part]"], unfollowed := true, recurses := true, apart := false, narrowed := true }
def HistoryFitsUptoSaid : Prop := historyFitsUptoRow.holds Tryz.pinned (OpenSpec.upto historyFitsSpec)

/-- 'impostlaw27.HistoryCalls', WHERE WHAT IT READS IS OF BULK AT MOST 1048576: true; the input reads as it did. -/
def historyCallsUptoRow : OpenClaim := { program := "ytoaibmbldmckaaagreat", sum := "a0d7bc0da0d5291d69b14591e176e9a79c0ce22cdccfaa94018e05f312dfe220", func := "impost/impostlaw27.HistoryCalls", spec := "historyCalls", inPlace := ["math/bits.Add64", "slices.overlaps[impost/api.Balance]", "slices.overlaps[impost/api.Session]", "slices.overlaps[impost/api.Series]", "slices.overlaps[impost/api.Rate]", "slices.overlaps[impost/api.Part]"], unfollowed := true, recurses := true, apart := false, narrowed := true }
def HistoryCallsUptoSaid : Prop := historyCallsUptoRow.holds Tryz.pinned (OpenSpec.upto historyCallsSpec)

end Rows
end Go.Proofs.YtoaibmbldmckaaaGreat
