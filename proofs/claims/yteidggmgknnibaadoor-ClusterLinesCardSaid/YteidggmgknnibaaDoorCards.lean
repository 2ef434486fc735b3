/-
  DERIVED. GIVEN WITH THE SEED: THE CARDS: each row of YteidggmgknnibaaDoorRows.lean that lists a variable, with what it lists TIED to the program's text (the seventh form; the later family's looks); each row that meets fmt, with fmt's text TOLD by the authors' own Lean function (tested against real Go, not proved from fmt's source: count such statements apart). THE CARD IS WHAT COUNTS. Prove the row's statement (the work); the ties are given (YteidggmgknnibaaDoorTie.lean); close each card by the builder's one call (the guide's Derived/Test/ToyasCard.lean, 'card_holds'). Laid BY PROGRAM, IN A SANDBOX (cutbox-door.mjs). By AI agents, Wed Nov 11 2026. No macro, syntax, notation, axiom, sorry.
-/
import Derived.Test.YteidggmgknnibaaDoorRows
import GoSem.ClaimSeven
namespace Go.Proofs.YteidggmgknnibaaDoor
namespace Rows

/-- THE TIED CARD OF 'mullionlaw29.ClusterLines'. -/
def clusterLinesCard : Claim7 := { stood := { row := clusterLinesRow, standIns := [], harness := (true, "0d93cf168ca260d7b4515ac1c74680c4fbb07e9f4fb2e59038a4081ced383295"), looks := true }, kinds := [], alts := [], laidByText := true, laidKinds := [.data, .data, .data, .data, .sentinel, .sentinel, .data, .pinned], laidTests := true, laidLooks := .later }
def ClusterLinesCardSaid : Prop := Claim7.holds Tryd.pinned (.plain (OpenSpec.ofChange clusterLinesSpec)) clusterLinesCard

/-- THE SECOND FORM's CARD OF 'mullionlaw29.ClusterLines'. -/
def clusterLinesUptoCard : Claim7 := { stood := { row := clusterLinesUptoRow, standIns := [], harness := (true, "0d93cf168ca260d7b4515ac1c74680c4fbb07e9f4fb2e59038a4081ced383295"), looks := true }, kinds := [], alts := [], laidByText := true, laidKinds := [.data, .data, .data, .data, .sentinel, .sentinel, .data, .pinned], laidTests := true, laidLooks := .later }
def ClusterLinesUptoCardSaid : Prop := Claim7.holds Tryd.pinned (.plain (OpenSpec.upto clusterLinesSpec)) clusterLinesUptoCard
end Rows
end Go.Proofs.YteidggmgknnibaaDoor
