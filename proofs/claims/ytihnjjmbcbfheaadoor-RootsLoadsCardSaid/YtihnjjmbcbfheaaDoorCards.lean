/-
  DERIVED. GIVEN WITH THE SEED: THE CARDS: each row of YtihnjjmbcbfheaaDoorRows.lean that lists a variable, with what it lists TIED to the program's text (the seventh form; the later family's looks); each row that meets fmt, with fmt's text TOLD by the authors' own Lean function (tested against real Go, not proved from fmt's source: count such statements apart). THE CARD IS WHAT COUNTS. Prove the row's statement (the work); the ties are given (YtihnjjmbcbfheaaDoorTie.lean); close each card by the builder's one call (the guide's Derived/Test/ToyasCard.lean, 'card_holds'). Laid BY PROGRAM, IN A SANDBOX (cutbox-door.mjs). By AI agents, Wed Nov 11 2026. No macro, syntax, notation, axiom, sorry.
-/
import Derived.Test.YtihnjjmbcbfheaaDoorRows
import GoSem.ClaimSeven
namespace Go.Proofs.YtihnjjmbcbfheaaDoor
namespace Rows

/-- THE TIED CARD OF 'tidewaylaw09.RootsLoads'. -/
def rootsLoadsCard : Claim7 := { stood := { row := rootsLoadsRow, standIns := [], harness := (true, "2e91b127deac66f7589e0ab1cc1a7f1cddcf9aff310a891c5ab145cca82471cb"), looks := true }, kinds := [], alts := [], laidByText := true, laidKinds := [.handle], laidTests := true, laidLooks := .later }
def RootsLoadsCardSaid : Prop := Claim7.holds Tryd.pinned (.plain (OpenSpec.ofChange rootsLoadsSpec)) rootsLoadsCard

/-- THE SECOND FORM's CARD OF 'tidewaylaw09.RootsLoads'. -/
def rootsLoadsUptoCard : Claim7 := { stood := { row := rootsLoadsUptoRow, standIns := [], harness := (true, "2e91b127deac66f7589e0ab1cc1a7f1cddcf9aff310a891c5ab145cca82471cb"), looks := true }, kinds := [], alts := [], laidByText := true, laidKinds := [.handle], laidTests := true, laidLooks := .later }
def RootsLoadsUptoCardSaid : Prop := Claim7.holds Tryd.pinned (.plain (OpenSpec.upto rootsLoadsSpec)) rootsLoadsUptoCard
end Rows
end Go.Proofs.YtihnjjmbcbfheaaDoor
