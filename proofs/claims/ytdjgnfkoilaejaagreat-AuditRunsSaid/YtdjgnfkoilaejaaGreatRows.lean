/-
  No cell of these rows narrows 'for every input' (looked for: loops, veiled, ifaces, maps, wideKeys, modest, calm, conditions, laid).
  DERIVED. THE GIVEN ROWS OF THIS SEAT. 3 by the template 'for every input the law returns true; each argument reads behind the call as it read before'; 0 by the template 'total and deterministic' (their statements: YtdjgnfkoilaejaaGreatTotals.lean).
  GIVEN WITH THE SEED: the statements are not yours to turn. If you find one false, say at which input.
  Laid BY PROGRAM, IN A SANDBOX (cutbox-rows.mjs): the forced cells as the released guide's own fill.sh prints them over the translation c607ef5881746ade… (all of the seat's roots in one cut). By AI agents, Wed Nov 11 2026. No macro, syntax, notation, axiom, sorry.
-/
import Derived.Test.YtdjgnfkoilaejaaGreatChecked
import GoSem.Claim
import GoSem.ClaimJoined
import GoSem.ClaimMapViews
import Derived.JoinedTies
import Derived.KernelRfl
namespace Go.Proofs.YtdjgnfkoilaejaaGreat
/- THE CELL 'sum', in the pinned program and in every row, IS THE sha256 OF THE DUMP (.gsa) THAT YtdjgnfkoilaejaaGreatProg.lean LOADS. Nothing in Lean hashes anything: it is a label: what it is worth is what the hold of that sum in a sandbox is worth. -/
noncomputable def Tryz.pinned : Pinned := { name := "ytdjgnfkoilaejaagreat", sum := "c607ef5881746ade09063335dd02c4d717904a6c90be649a4f73f2535e069a5d", checked := Tryz.checked }
namespace Rows
def none {H : Type} : Left H := { results := [], args := [] }

/-- 'impostlaw14.BillingRuns': WHATEVER THE INPUT: true; the input reads as it did. -/
def billingRunsSpec : ChangeSpec := { name := "billingRuns", fn := fun _ => fun
  | [] => { results := [.lit (.bool true)], args := [] }
  | _ => none }
def billingRunsRow : OpenClaim := { program := "ytdjgnfkoilaejaagreat", sum := "c607ef5881746ade09063335dd02c4d717904a6c90be649a4f73f2535e069a5d", func := "impost/impostlaw14.BillingRuns", spec := "billingRuns", inPlace := ["math/bits.Add64", "slices.overlaps[impost/api.Balance]", "slices.overlaps[impost/api.Session]", "slices.overlaps[impost/api.Series]", "slices.overlaps[impost/api.Rate]", "slices.overlaps[impost/api.Part]"], unfollowed := true, recurses := true, apart := false }
def BillingRunsSaid : Prop := billingRunsRow.holds Tryz.pinned (OpenSpec.ofChange billingRunsSpec)

/-- ITS FALSE NEIGHBOUR: 'it returns false'. Refute it at one input. -/
def billingRunsWrong : ChangeSpec := { name := "billingRuns", fn := fun _ => fun
  | [] => { results := [.lit (.bool false)], args := [] }
  | _ => none }
def BillingRunsWrongFalsely : Prop := billingRunsRow.holds Tryz.pinned (OpenSpec.ofChange billingRunsWrong)

/-- 'impostlaw29.AuditRuns': WHATEVER THE INPUT: true; the input reads as it did. -/
def auditRunsSpec : ChangeSpec := { name := "auditRuns", fn := fun _ => fun
  | [] => { results := [.lit (.bool true)], args := [] }
  | _ => none }
def auditRunsRow : OpenClaim := { program := "ytdjgnfkoilaejaagreat", sum := "c607ef5881746ade09063335dd02c4d717904a6c90be649a4f73f2535e069a5d", func := "impost/impostlaw29.AuditRuns", spec := "auditRuns", inPlace := ["math/bits.Add64", "slices.overlaps[impost/api.Balance]", "slices.overlaps[impost/api.Session]", "slices.overlaps[impost/api.Series]", "slices.overlaps[impost/api.Rate]", "slices.overlaps[impost/api.Part]", "slices.overlaps[impost/audit.Row]"], unfollowed := true, recurses := true, apart := false }
def AuditRunsSaid : Prop := auditRunsRow.holds Tryz.pinned (OpenSpec.ofChange auditRunsSpec)

/-- ITS FALSE NEIGHBOUR: 'it returns false'. Refute it at one input. -/
def auditRunsWrong : ChangeSpec := { name := "auditRuns", fn := fun _ => fun
  | [] => { results := [.lit (.bool false)], args := [] }
  | _ => none }
def AuditRunsWrongFalsely : Prop := auditRunsRow.holds Tryz.pinned (OpenSpec.ofChange auditRunsWrong)

/-- 'impostlaw27.HistoryRuns': WHATEVER THE INPUT: true; the input reads as it did. -/
def historyRunsSpec : ChangeSpec := { name := "historyRuns", fn := fun _ => fun
  | [] => { results := [.lit (.bool true)], args := [] }
  | _ => none }
def historyRunsRow : OpenClaim := { program := "ytdjgnfkoilaejaagreat", sum := "c607ef5881746ade09063335dd02c4d717904a6c90be649a4f73f2535e069a5d", func := "impost/impostlaw27.HistoryRuns", spec := "historyRuns", inPlace := ["math/bits.Add64", "slices.overlaps[impost/api.Balance]", "slices.overlaps[impost/api.Session]", "slices.overlaps[impost/api.Series]", "slices.overlaps[impost/api.Rate]", "slices.overlaps[impost/api.Part]"], unfollowed := true, recurses := true, apart := false }
def HistoryRunsSaid : Prop := historyRunsRow.holds Tryz.pinned (OpenSpec.ofChange historyRunsSpec)

/-- ITS FALSE NEIGHBOUR: 'it returns false'. Refute it at one input. -/
def historyRunsWrong : ChangeSpec := { name := "historyRuns", fn := fun _ => fun
  | [] => { results := [.lit (.bool false)], args := [] }
  | _ => none }
def HistoryRunsWrongFalsely : Prop := historyRunsRow.holds Tryz.pinned (OpenSpec.ofChange historyRunsWrong)

/- THE SECOND FORM. 'bulk': how many values and letters a reading holds, each counted each time it is reached (what is shared counts as often as it is met; a slice's spare places count too). A statement '..UptoSaid' is the law's where the arguments, and the package variables that the reading takes, are together of bulk at most 1048576: NARROWER than '..Said'. Prove '..Said' where nothing that the law and all that it calls make is longer than what came in: it says more and counts as full. Else prove '..UptoSaid'. A law counts once. -/
mutual
def uptoBulk {H : Type} : DataW H → Nat
  | .lit (.string bytes) => bytes.length + 1
  | .lit _ => 1
  | .nil => 1
  | .ptr d => uptoBulk d + 1
  | .slice elems spare => uptoBulkAll elems + uptoBulkAll spare + 1
  | .agg parts => uptoBulkAll parts + 1
  | .iface _ d => uptoBulk d + 1
  | .map entries => uptoBulkEntries entries + 1
  | .held _ => 1
def uptoBulkAll {H : Type} : List (DataW H) → Nat
  | [] => 0
  | d :: r => uptoBulk d + uptoBulkAll r
def uptoBulkEntries {H : Type} : List (Lit × DataW H) → Nat
  | [] => 0
  | x :: r => uptoBulkEntry x + uptoBulkEntries r
def uptoBulkEntry {H : Type} : Lit × DataW H → Nat
  | (.string bytes, d) => bytes.length + uptoBulk d + 1
  | (_, d) => uptoBulk d + 1
 end
def uptoSmall : (H : Type) → List (DataW H) → Bool := fun _ ds => decide (uptoBulkAll ds ≤ 1048576)
def OpenSpec.upto (s : _root_.Go.ChangeSpec) : _root_.Go.OpenSpec := { _root_.Go.OpenSpec.ofChange s with cond := some uptoSmall }

/-- 'impostlaw14.BillingRuns', WHERE WHAT IT READS IS OF BULK AT MOST 1048576: true; the input reads as it did. -/
def billingRunsUptoRow : OpenClaim := { program := "ytdjgnfkoilaejaagreat", sum := "c607ef5881746ade09063335dd02c4d717904a6c90be649a4f73f2535e069a5d", func := "impost/impostlaw14.BillingRuns", spec := "billingRuns", inPlace := ["math/bits.Add64", "slices.overlaps[impost/api.Balance]", "slices.overlaps[impost/api.Session]", "slices.overlaps[impost/api.Series]", "slices.overlaps[impost/api.Rate]", "slices.overlaps[impost/api.Part]"], unfollowed := true, recurses := true, apart := false, narrowed := true }
def BillingRunsUptoSaid : Prop := billingRunsUptoRow.holds Tryz.pinned (OpenSpec.upto billingRunsSpec)

/-- 'impostlaw29.AuditRuns', WHERE WHAT IT READS IS OF BULK AT MOST 1048576: true; the input reads as it did. -/
def auditRunsUptoRow : OpenClaim := { program := "ytdjgnfkoilaejaagreat", sum := "c607ef5881746ade09063335dd02c4d717904a6c90be649a4f73f2535e069a5d", func := "impost/impostlaw29.AuditRuns", spec := "auditRuns", inPlace := ["math/bits.Add64", "slices.overlaps[impost/api.Balance]", "slices.overlaps[impost/api.Session]", "slices.overlaps[impost/api.Series]", "slices.overlaps[impost/api.Rate]", "slices.overlaps[impost/api.Part]", "slices.overlaps[impost/audit.Row]"], unfollowed := true, recurses := true, apart := false, narrowed := true }
def AuditRunsUptoSaid : Prop := auditRunsUptoRow.holds Tryz.pinned (OpenSpec.upto auditRunsSpec)

/-- 'impostlaw27.HistoryRuns', WHERE WHAT IT READS IS OF BULK AT MOST 1048576: true; the input reads as it did. -/
def historyRunsUptoRow : OpenClaim := { program := "ytdjgnfkoilaejaagreat", sum := "c607ef5881746ade09063335dd02c4d717904a6c90be649a4f73f2535e069a5d", func := "impost/impostlaw27.HistoryRuns", spec := "historyRuns", inPlace := ["math/bits.Add64", "slices.overlaps[impost/api.Balance]", "slices.overlaps[impost/api.Session]", "slices.overlaps[impost/api.Series]", "slices.overlaps[impost/api.Rate]", "slices.overlaps[impost/api.Part]"], unfollowed := true, recurses := true, apart := false, narrowed := true }
def HistoryRunsUptoSaid : Prop := historyRunsUptoRow.holds Tryz.pinned (OpenSpec.upto historyRunsSpec)

end Rows
end Go.Proofs.YtdjgnfkoilaejaaGreat
