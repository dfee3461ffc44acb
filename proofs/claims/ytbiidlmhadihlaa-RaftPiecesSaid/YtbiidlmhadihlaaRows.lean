/-
  No cell of these rows narrows 'for every input' (looked for: loops, veiled, ifaces, maps, wideKeys, modest, calm, conditions, laid).
  DERIVED. THE GIVEN ROWS OF THIS SEAT. 6 by the template 'for every input the law returns true; each argument reads behind the call as it read before'; 0 by the template 'total and deterministic' (their statements: YtbiidlmhadihlaaTotals.lean).
  GIVEN WITH THE SEED: the statements are not yours to turn. If you find one false, say at which input.
  Laid BY PROGRAM, IN A SANDBOX (cutbox-rows.mjs): the forced cells as the released guide's own fill.sh prints them over the translation 309af3b19f342303… (all of the seat's roots in one cut). By AI agents, Wed Nov 11 2026. No macro, syntax, notation, axiom, sorry.
-/
import Derived.Test.YtbiidlmhadihlaaChecked
import GoSem.Claim
import GoSem.ClaimJoined
import GoSem.ClaimMapViews
import Derived.JoinedTies
import Derived.KernelRfl
namespace Go.Proofs.Ytbiidlmhadihlaa
/- THE CELL 'sum', in the pinned program and in every row, IS THE sha256 OF THE DUMP (.gsa) THAT YtbiidlmhadihlaaProg.lean LOADS. Nothing in Lean hashes anything: it is a label: what it is worth is what the hold of that sum in a sandbox is worth. -/
noncomputable def Try.pinned : Pinned := { name := "ytbiidlmhadihlaa", sum := "309af3b19f342303a2cba2c4e4c493806de61836a8c048c2fc763901284786fd", checked := Try.checked }
namespace Rows
def none {H : Type} : Left H := { results := [], args := [] }

/-- 'impostlaw22.RaftPlays': WHATEVER THE INPUT: true; the input reads as it did. -/
def raftPlaysSpec : ChangeSpec := { name := "raftPlays", fn := fun _ => fun
  | [d1, d2, d3, d4] => { results := [.lit (.bool true)], args := [d1, d2, d3, d4] }
  | _ => none }
def raftPlaysRow : OpenClaim := { program := "ytbiidlmhadihlaa", sum := "309af3b19f342303a2cba2c4e4c493806de61836a8c048c2fc763901284786fd", func := "impost/impostlaw22.RaftPlays", spec := "raftPlays", apart := false }
def RaftPlaysSaid : Prop := raftPlaysRow.holds Try.pinned (OpenSpec.ofChange raftPlaysSpec)

/-- ITS FALSE NEIGHBOUR: 'it returns false'. Refute it at one input. -/
def raftPlaysWrong : ChangeSpec := { name := "raftPlays", fn := fun _ => fun
  | [d1, d2, d3, d4] => { results := [.lit (.bool false)], args := [d1, d2, d3, d4] }
  | _ => none }
def RaftPlaysWrongFalsely : Prop := raftPlaysRow.holds Try.pinned (OpenSpec.ofChange raftPlaysWrong)

/-- 'impostlaw22.RaftKeeps': WHATEVER THE INPUT: true; the input reads as it did. -/
def raftKeepsSpec : ChangeSpec := { name := "raftKeeps", fn := fun _ => fun
  | [d1, d2, d3, d4] => { results := [.lit (.bool true)], args := [d1, d2, d3, d4] }
  | _ => none }
def raftKeepsRow : OpenClaim := { program := "ytbiidlmhadihlaa", sum := "309af3b19f342303a2cba2c4e4c493806de61836a8c048c2fc763901284786fd", func := "impost/impostlaw22.RaftKeeps", spec := "raftKeeps", apart := false }
def RaftKeepsSaid : Prop := raftKeepsRow.holds Try.pinned (OpenSpec.ofChange raftKeepsSpec)

/-- ITS FALSE NEIGHBOUR: 'it returns false'. Refute it at one input. -/
def raftKeepsWrong : ChangeSpec := { name := "raftKeeps", fn := fun _ => fun
  | [d1, d2, d3, d4] => { results := [.lit (.bool false)], args := [d1, d2, d3, d4] }
  | _ => none }
def RaftKeepsWrongFalsely : Prop := raftKeepsRow.holds Try.pinned (OpenSpec.ofChange raftKeepsWrong)

/-- 'impostlaw22.RaftSafe': WHATEVER THE INPUT: true; the input reads as it did. -/
def raftSafeSpec : ChangeSpec := { name := "raftSafe", fn := fun _ => fun
  | [d1, d2] => { results := [.lit (.bool true)], args := [d1, d2] }
  | _ => none }
def raftSafeRow : OpenClaim := { program := "ytbiidlmhadihlaa", sum := "309af3b19f342303a2cba2c4e4c493806de61836a8c048c2fc763901284786fd", func := "impost/impostlaw22.RaftSafe", spec := "raftSafe", apart := false }
def RaftSafeSaid : Prop := raftSafeRow.holds Try.pinned (OpenSpec.ofChange raftSafeSpec)

/-- ITS FALSE NEIGHBOUR: 'it returns false'. Refute it at one input. -/
def raftSafeWrong : ChangeSpec := { name := "raftSafe", fn := fun _ => fun
  | [d1, d2] => { results := [.lit (.bool false)], args := [d1, d2] }
  | _ => none }
def RaftSafeWrongFalsely : Prop := raftSafeRow.holds Try.pinned (OpenSpec.ofChange raftSafeWrong)

/-- 'impostlaw22.RaftHolds': WHATEVER THE INPUT: true; the input reads as it did. -/
def raftHoldsSpec : ChangeSpec := { name := "raftHolds", fn := fun _ => fun
  | [d1, d2] => { results := [.lit (.bool true)], args := [d1, d2] }
  | _ => none }
def raftHoldsRow : OpenClaim := { program := "ytbiidlmhadihlaa", sum := "309af3b19f342303a2cba2c4e4c493806de61836a8c048c2fc763901284786fd", func := "impost/impostlaw22.RaftHolds", spec := "raftHolds", apart := false }
def RaftHoldsSaid : Prop := raftHoldsRow.holds Try.pinned (OpenSpec.ofChange raftHoldsSpec)

/-- ITS FALSE NEIGHBOUR: 'it returns false'. Refute it at one input. -/
def raftHoldsWrong : ChangeSpec := { name := "raftHolds", fn := fun _ => fun
  | [d1, d2] => { results := [.lit (.bool false)], args := [d1, d2] }
  | _ => none }
def RaftHoldsWrongFalsely : Prop := raftHoldsRow.holds Try.pinned (OpenSpec.ofChange raftHoldsWrong)

/-- 'impostlaw22.RaftPieces': WHATEVER THE INPUT: true; the input reads as it did. -/
def raftPiecesSpec : ChangeSpec := { name := "raftPieces", fn := fun _ => fun
  | [d1, d2] => { results := [.lit (.bool true)], args := [d1, d2] }
  | _ => none }
def raftPiecesRow : OpenClaim := { program := "ytbiidlmhadihlaa", sum := "309af3b19f342303a2cba2c4e4c493806de61836a8c048c2fc763901284786fd", func := "impost/impostlaw22.RaftPieces", spec := "raftPieces", apart := false }
def RaftPiecesSaid : Prop := raftPiecesRow.holds Try.pinned (OpenSpec.ofChange raftPiecesSpec)

/-- ITS FALSE NEIGHBOUR: 'it returns false'. Refute it at one input. -/
def raftPiecesWrong : ChangeSpec := { name := "raftPieces", fn := fun _ => fun
  | [d1, d2] => { results := [.lit (.bool false)], args := [d1, d2] }
  | _ => none }
def RaftPiecesWrongFalsely : Prop := raftPiecesRow.holds Try.pinned (OpenSpec.ofChange raftPiecesWrong)

/-- 'impostlaw22.RaftCopies': WHATEVER THE INPUT: true; the input reads as it did. -/
def raftCopiesSpec : ChangeSpec := { name := "raftCopies", fn := fun _ => fun
  | [d1, d2] => { results := [.lit (.bool true)], args := [d1, d2] }
  | _ => none }
def raftCopiesRow : OpenClaim := { program := "ytbiidlmhadihlaa", sum := "309af3b19f342303a2cba2c4e4c493806de61836a8c048c2fc763901284786fd", func := "impost/impostlaw22.RaftCopies", spec := "raftCopies", apart := false }
def RaftCopiesSaid : Prop := raftCopiesRow.holds Try.pinned (OpenSpec.ofChange raftCopiesSpec)

/-- ITS FALSE NEIGHBOUR: 'it returns false'. Refute it at one input. -/
def raftCopiesWrong : ChangeSpec := { name := "raftCopies", fn := fun _ => fun
  | [d1, d2] => { results := [.lit (.bool false)], args := [d1, d2] }
  | _ => none }
def RaftCopiesWrongFalsely : Prop := raftCopiesRow.holds Try.pinned (OpenSpec.ofChange raftCopiesWrong)

/- THE SECOND FORM. 'bulk': how many values and letters a reading holds, each counted each time it is reached (what is shared counts as often as it is met; a slice's spare places count too). A statement '..UptoSaid' is the law's where the arguments, and the package variables that the reading takes, are together of bulk at most 1048576: NARROWER than '..Said'. Prove '..Said' where nothing that the law and all that it calls make is longer than what came in: it says more and counts as full. Else prove '..UptoSaid'. A law counts once. -/
mutual
def uptoBulk {H : Type} : DataW H → Nat
  | .lit (.string bytes) => bytes.length + 1
  | .lit _ => 1
  | .nil => 1
  | .ptr d => uptoBulk d + 1
  | .slice elems spare => uptoBulkAll elems + uptoBulkAll spare + 1
  | .agg parts => uptoBulkAll parts + 1
  | .iface _ d => uptoBulk d + 1
  | .map entries => uptoBulkEntries entries + 1
  | .held _ => 1
def uptoBulkAll {H : Type} : List (DataW H) → Nat
  | [] => 0
  | d :: r => uptoBulk d + uptoBulkAll r
def uptoBulkEntries {H : Type} : List (Lit × DataW H) → Nat
  | [] => 0
  | x :: r => uptoBulkEntry x + uptoBulkEntries r
def uptoBulkEntry {H : Type} : Lit × DataW H → Nat
  | (.string bytes, d) => bytes.length + uptoBulk d + 1
  | (_, d) => uptoBulk d + 1
 end
def uptoSmall : (H : Type) → List (DataW H) → Bool := fun _ ds => decide (uptoBulkAll ds ≤ 1048576)
def OpenSpec.upto (s : _root_.Go.ChangeSpec) : _root_.Go.OpenSpec := { _root_.Go.OpenSpec.ofChange s with cond := some uptoSmall }

/-- 'impostlaw22.RaftPlays', WHERE WHAT IT READS IS OF BULK AT MOST 1048576: true; the input reads as it did. -/
def raftPlaysUptoRow : OpenClaim := { program := "ytbiidlmhadihlaa", sum := "309af3b19f342303a2cba2c4e4c493806de61836a8c048c2fc763901284786fd", func := "impost/impostlaw22.RaftPlays", spec := "raftPlays", apart := false, narrowed := true }
def RaftPlaysUptoSaid : Prop := raftPlaysUptoRow.holds Try.pinned (OpenSpec.upto raftPlaysSpec)

/-- 'impostlaw22.RaftKeeps', WHERE WHAT IT READS IS OF BULK AT MOST 1048576: true; the input reads as it did. -/
def raftKeepsUptoRow : OpenClaim := { program := "ytbiidlmhadihlaa", sum := "309af3b19f342303a2cba2c4e4c493806de61836a8c048c2fc763901284786fd", func := "impost/impostlaw22.RaftKeeps", spec := "raftKeeps", apart := false, narrowed := true }
def RaftKeepsUptoSaid : Prop := raftKeepsUptoRow.holds Try.pinned (OpenSpec.upto raftKeepsSpec)

/-- 'impostlaw22.RaftSafe', WHERE WHAT IT READS IS OF BULK AT MOST 1048576: true; the input reads as it did. -/
def raftSafeUptoRow : OpenClaim := { program := "ytbiidlmhadihlaa", sum := "309af3b19f342303a2cba2c4e4c493806de61836a8c048c2fc763901284786fd", func := "impost/impostlaw22.RaftSafe", spec := "raftSafe", apart := false, narrowed := true }
def RaftSafeUptoSaid : Prop := raftSafeUptoRow.holds Try.pinned (OpenSpec.upto raftSafeSpec)

/-- 'impostlaw22.RaftHolds', WHERE WHAT IT READS IS OF BULK AT MOST 1048576: true; the input reads as it did. -/
def raftHoldsUptoRow : OpenClaim := { program := "ytbiidlmhadihlaa", sum := "309af3b19f342303a2cba2c4e4c493806de61836a8c048c2fc763901284786fd", func := "impost/impostlaw22.RaftHolds", spec := "raftHolds", apart := false, narrowed := true }
def RaftHoldsUptoSaid : Prop := raftHoldsUptoRow.holds Try.pinned (OpenSpec.upto raftHoldsSpec)

/-- 'impostlaw22.RaftPieces', WHERE WHAT IT READS IS OF BULK AT MOST 1048576: true; the input reads as it did. -/
def raftPiecesUptoRow : OpenClaim := { program := "ytbiidlmhadihlaa", sum := "309af3b19f342303a2cba2c4e4c493806de61836a8c048c2fc763901284786fd", func := "impost/impostlaw22.RaftPieces", spec := "raftPieces", apart := false, narrowed := true }
def RaftPiecesUptoSaid : Prop := raftPiecesUptoRow.holds Try.pinned (OpenSpec.upto raftPiecesSpec)

/-- 'impostlaw22.RaftCopies', WHERE WHAT IT READS IS OF BULK AT MOST 1048576: true; the input reads as it did. -/
def raftCopiesUptoRow : OpenClaim := { program := "ytbiidlmhadihlaa", sum := "309af3b19f342303a2cba2c4e4c493806de61836a8c048c2fc763901284786fd", func := "impost/impostlaw22.RaftCopies", spec := "raftCopies", apart := false, narrowed := true }
def RaftCopiesUptoSaid : Prop := raftCopiesUptoRow.holds Try.pinned (OpenSpec.upto raftCopiesSpec)

end Rows
end Go.Proofs.Ytbiidlmhadihlaa
