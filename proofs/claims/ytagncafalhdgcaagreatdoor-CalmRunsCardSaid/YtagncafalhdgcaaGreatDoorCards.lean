/-
  DERIVED. GIVEN WITH THE SEED: THE CARDS: each row of YtagncafalhdgcaaGreatDoorRows.lean that lists a variable, with what it lists TIED to the program's text (the seventh form; the later family's looks); each row that meets fmt, with fmt's text TOLD by the authors' own Lean function (tested against real Go, not proved from fmt's source: count such statements apart). THE CARD IS WHAT COUNTS. Prove the row's statement (the work); the ties are given (YtagncafalhdgcaaGreatDoorTie.lean); close each card by the builder's one call (the guide's Derived/Test/ToyasCard.lean, 'card_holds'). Laid BY PROGRAM, IN A SANDBOX (cutbox-door.mjs). By AI agents, Wed Nov 11 2026. No macro, syntax, notation, axiom, sorry.
-/
import Derived.Test.YtagncafalhdgcaaGreatDoorRows
import GoSem.ClaimSeven
namespace Go.Proofs.YtagncafalhdgcaaGreatDoor
namespace Rows

/-- THE TIED CARD OF 'impostlaw24.NodeRuns'. -/
def nodeRunsCard : Claim7 := { stood := { row := nodeRunsRow, standIns := [], harness := (true, "8df137e4461d5d01ca3f349ac55f4f987dc43e263dd12022a3252b26b5f9af9d"), looks := true }, kinds := [], alts := [], laidByText := true, laidKinds := [.data, .data, .data], laidTests := true, laidLooks := .later }
def NodeRunsCardSaid : Prop := Claim7.holds Tryz.pinned (.plain (OpenSpec.ofChange nodeRunsSpec)) nodeRunsCard

/-- THE TIED CARD OF 'impostlaw26.ClusterRuns'. -/
def clusterRunsCard : Claim7 := { stood := { row := clusterRunsRow, standIns := [], harness := (true, "8df137e4461d5d01ca3f349ac55f4f987dc43e263dd12022a3252b26b5f9af9d"), looks := true }, kinds := [], alts := [], laidByText := true, laidKinds := [.data, .data, .data], laidTests := true, laidLooks := .later }
def ClusterRunsCardSaid : Prop := Claim7.holds Tryz.pinned (.plain (OpenSpec.ofChange clusterRunsSpec)) clusterRunsCard

/-- THE TIED CARD OF 'impostlaw28.CalmRuns'. -/
def calmRunsCard : Claim7 := { stood := { row := calmRunsRow, standIns := [], harness := (true, "8df137e4461d5d01ca3f349ac55f4f987dc43e263dd12022a3252b26b5f9af9d"), looks := true }, kinds := [], alts := [], laidByText := true, laidKinds := [.data, .data, .data], laidTests := true, laidLooks := .later }
def CalmRunsCardSaid : Prop := Claim7.holds Tryz.pinned (.plain (OpenSpec.ofChange calmRunsSpec)) calmRunsCard

/-- THE TIED CARD OF 'impostlaw30.ShellRuns'. -/
def shellRunsCard : Claim7 := { stood := { row := shellRunsRow, standIns := [], harness := (true, "8df137e4461d5d01ca3f349ac55f4f987dc43e263dd12022a3252b26b5f9af9d"), looks := true }, kinds := [], alts := [], laidByText := true, laidKinds := [.data, .data, .data, .data, .sentinel, .sentinel, .pinned], laidTests := true, laidLooks := .later }
def ShellRunsCardSaid : Prop := Claim7.holds Tryz.pinned (.plain (OpenSpec.ofChange shellRunsSpec)) shellRunsCard

/-- THE SECOND FORM's CARD OF 'impostlaw24.NodeRuns'. -/
def nodeRunsUptoCard : Claim7 := { stood := { row := nodeRunsUptoRow, standIns := [], harness := (true, "8df137e4461d5d01ca3f349ac55f4f987dc43e263dd12022a3252b26b5f9af9d"), looks := true }, kinds := [], alts := [], laidByText := true, laidKinds := [.data, .data, .data], laidTests := true, laidLooks := .later }
def NodeRunsUptoCardSaid : Prop := Claim7.holds Tryz.pinned (.plain (OpenSpec.upto nodeRunsSpec)) nodeRunsUptoCard

/-- THE SECOND FORM's CARD OF 'impostlaw26.ClusterRuns'. -/
def clusterRunsUptoCard : Claim7 := { stood := { row := clusterRunsUptoRow, standIns := [], harness := (true, "8df137e4461d5d01ca3f349ac55f4f987dc43e263dd12022a3252b26b5f9af9d"), looks := true }, kinds := [], alts := [], laidByText := true, laidKinds := [.data, .data, .data], laidTests := true, laidLooks := .later }
def ClusterRunsUptoCardSaid : Prop := Claim7.holds Tryz.pinned (.plain (OpenSpec.upto clusterRunsSpec)) clusterRunsUptoCard

/-- THE SECOND FORM's CARD OF 'impostlaw28.CalmRuns'. -/
def calmRunsUptoCard : Claim7 := { stood := { row := calmRunsUptoRow, standIns := [], harness := (true, "8df137e4461d5d01ca3f349ac55f4f987dc43e263dd12022a3252b26b5f9af9d"), looks := true }, kinds := [], alts := [], laidByText := true, laidKinds := [.data, .data, .data], laidTests := true, laidLooks := .later }
def CalmRunsUptoCardSaid : Prop := Claim7.holds Tryz.pinned (.plain (OpenSpec.upto calmRunsSpec)) calmRunsUptoCard

/-- THE SECOND FORM's CARD OF 'impostlaw30.ShellRuns'. -/
def shellRunsUptoCard : Claim7 := { stood := { row := shellRunsUptoRow, standIns := [], harness := (true, "8df137e4461d5d01ca3f349ac55f4f987dc43e263dd12022a3252b26b5f9af9d"), looks := true }, kinds := [], alts := [], laidByText := true, laidKinds := [.data, .data, .data, .data, .sentinel, .sentinel, .pinned], laidTests := true, laidLooks := .later }
def ShellRunsUptoCardSaid : Prop := Claim7.holds Tryz.pinned (.plain (OpenSpec.upto shellRunsSpec)) shellRunsUptoCard
end Rows
end Go.Proofs.YtagncafalhdgcaaGreatDoor
