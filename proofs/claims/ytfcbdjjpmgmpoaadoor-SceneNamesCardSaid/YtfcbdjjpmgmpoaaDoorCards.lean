/-
  DERIVED. GIVEN WITH THE SEED: THE CARDS: each row of YtfcbdjjpmgmpoaaDoorRows.lean that lists a variable, with what it lists TIED to the program's text (the seventh form; the later family's looks); each row that meets fmt, with fmt's text TOLD by the authors' own Lean function (tested against real Go, not proved from fmt's source: count such statements apart). THE CARD IS WHAT COUNTS. Prove the row's statement (the work); the ties are given (YtfcbdjjpmgmpoaaDoorTie.lean); close each card by the builder's one call (the guide's Derived/Test/ToyasCard.lean, 'card_holds'). Laid BY PROGRAM, IN A SANDBOX (cutbox-door.mjs). By AI agents, Wed Nov 11 2026. No macro, syntax, notation, axiom, sorry.
-/
import Derived.Test.YtfcbdjjpmgmpoaaDoorRows
import GoSem.ClaimSeven
namespace Go.Proofs.YtfcbdjjpmgmpoaaDoor
namespace Rows

/-- THE TIED CARD OF 'mullionlaw06.SceneNames'. -/
def sceneNamesCard : Claim7 := { stood := { row := sceneNamesRow, standIns := [], harness := (true, "fd93c0e10b54c5b395db69f50610f1f2760a63f1d1c2f42fd77ea9ab5e80c02e"), looks := false }, kinds := [], alts := [], laidByText := true, laidKinds := [.data], laidTests := true, laidLooks := .later }
def SceneNamesCardSaid : Prop := Claim7.holds Tryd.pinned (.plain (OpenSpec.ofChange sceneNamesSpec)) sceneNamesCard

/-- THE SECOND FORM's CARD OF 'mullionlaw06.SceneNames'. -/
def sceneNamesUptoCard : Claim7 := { stood := { row := sceneNamesUptoRow, standIns := [], harness := (true, "fd93c0e10b54c5b395db69f50610f1f2760a63f1d1c2f42fd77ea9ab5e80c02e"), looks := false }, kinds := [], alts := [], laidByText := true, laidKinds := [.data], laidTests := true, laidLooks := .later }
def SceneNamesUptoCardSaid : Prop := Claim7.holds Tryd.pinned (.plain (OpenSpec.upto sceneNamesSpec)) sceneNamesUptoCard
end Rows
end Go.Proofs.YtfcbdjjpmgmpoaaDoor
