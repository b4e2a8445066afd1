/-
  DERIVED. GIVEN WITH THE SEED: THE CARDS: each row of YtepmokkhcombmaaDoorRows.lean that lists a variable, with what it lists TIED to the program's text (the seventh form; the later family's looks); each row that meets fmt, with fmt's text TOLD by the authors' own Lean function (tested against real Go, not proved from fmt's source: count such statements apart). THE CARD IS WHAT COUNTS. Prove the row's statement (the work); the ties are given (YtepmokkhcombmaaDoorTie.lean); close each card by the builder's one call (the guide's Derived/Test/ToyasCard.lean, 'card_holds'). Laid BY PROGRAM, IN A SANDBOX (cutbox-door.mjs). By AI agents, Wed Nov 11 2026. No macro, syntax, notation, axiom, sorry.
-/
import Derived.Test.YtepmokkhcombmaaDoorRows
import GoSem.ClaimSeven
namespace Go.Proofs.YtepmokkhcombmaaDoor
namespace Rows

/-- THE TIED CARD OF 'tidewaylaw16.ShapeViews'. -/
def shapeViewsCard : Claim7 := { stood := { row := shapeViewsRow, standIns := [], harness := (true, "7920234c2d623eeeed254d15530c68b975c02162b4d301d9a7fc63f4aa17cc0b"), looks := false }, kinds := [], alts := [], laidByText := true, laidKinds := [.data, .data, .data], laidTests := true, laidLooks := .later }
def ShapeViewsCardSaid : Prop := Claim7.holds Tryd.pinned (.plain (OpenSpec.ofChange shapeViewsSpec)) shapeViewsCard

/-- THE TIED CARD OF 'tidewaylaw16.ShapeRenamed'. -/
def shapeRenamedCard : Claim7 := { stood := { row := shapeRenamedRow, standIns := [], harness := (true, "7920234c2d623eeeed254d15530c68b975c02162b4d301d9a7fc63f4aa17cc0b"), looks := false }, kinds := [], alts := [], laidByText := true, laidKinds := [.data, .data, .data], laidTests := true, laidLooks := .later }
def ShapeRenamedCardSaid : Prop := Claim7.holds Tryd.pinned (.plain (OpenSpec.ofChange shapeRenamedSpec)) shapeRenamedCard

/-- THE TIED CARD OF 'tidewaylaw16.ShapeEnds'. -/
def shapeEndsCard : Claim7 := { stood := { row := shapeEndsRow, standIns := [], harness := (true, "7920234c2d623eeeed254d15530c68b975c02162b4d301d9a7fc63f4aa17cc0b"), looks := false }, kinds := [], alts := [], laidByText := true, laidKinds := [.data, .data, .data], laidTests := true, laidLooks := .later }
def ShapeEndsCardSaid : Prop := Claim7.holds Tryd.pinned (.plain (OpenSpec.ofChange shapeEndsSpec)) shapeEndsCard

/-- THE TIED CARD OF 'tidewaylaw16.ShapeFlat'. -/
def shapeFlatCard : Claim7 := { stood := { row := shapeFlatRow, standIns := [], harness := (true, "7920234c2d623eeeed254d15530c68b975c02162b4d301d9a7fc63f4aa17cc0b"), looks := false }, kinds := [], alts := [], laidByText := true, laidKinds := [.data, .data, .data], laidTests := true, laidLooks := .later }
def ShapeFlatCardSaid : Prop := Claim7.holds Tryd.pinned (.plain (OpenSpec.ofChange shapeFlatSpec)) shapeFlatCard

/-- THE SECOND FORM's CARD OF 'tidewaylaw16.ShapeViews'. -/
def shapeViewsUptoCard : Claim7 := { stood := { row := shapeViewsUptoRow, standIns := [], harness := (true, "7920234c2d623eeeed254d15530c68b975c02162b4d301d9a7fc63f4aa17cc0b"), looks := false }, kinds := [], alts := [], laidByText := true, laidKinds := [.data, .data, .data], laidTests := true, laidLooks := .later }
def ShapeViewsUptoCardSaid : Prop := Claim7.holds Tryd.pinned (.plain (OpenSpec.upto shapeViewsSpec)) shapeViewsUptoCard

/-- THE SECOND FORM's CARD OF 'tidewaylaw16.ShapeRenamed'. -/
def shapeRenamedUptoCard : Claim7 := { stood := { row := shapeRenamedUptoRow, standIns := [], harness := (true, "7920234c2d623eeeed254d15530c68b975c02162b4d301d9a7fc63f4aa17cc0b"), looks := false }, kinds := [], alts := [], laidByText := true, laidKinds := [.data, .data, .data], laidTests := true, laidLooks := .later }
def ShapeRenamedUptoCardSaid : Prop := Claim7.holds Tryd.pinned (.plain (OpenSpec.upto shapeRenamedSpec)) shapeRenamedUptoCard

/-- THE SECOND FORM's CARD OF 'tidewaylaw16.ShapeEnds'. -/
def shapeEndsUptoCard : Claim7 := { stood := { row := shapeEndsUptoRow, standIns := [], harness := (true, "7920234c2d623eeeed254d15530c68b975c02162b4d301d9a7fc63f4aa17cc0b"), looks := false }, kinds := [], alts := [], laidByText := true, laidKinds := [.data, .data, .data], laidTests := true, laidLooks := .later }
def ShapeEndsUptoCardSaid : Prop := Claim7.holds Tryd.pinned (.plain (OpenSpec.upto shapeEndsSpec)) shapeEndsUptoCard

/-- THE SECOND FORM's CARD OF 'tidewaylaw16.ShapeFlat'. -/
def shapeFlatUptoCard : Claim7 := { stood := { row := shapeFlatUptoRow, standIns := [], harness := (true, "7920234c2d623eeeed254d15530c68b975c02162b4d301d9a7fc63f4aa17cc0b"), looks := false }, kinds := [], alts := [], laidByText := true, laidKinds := [.data, .data, .data], laidTests := true, laidLooks := .later }
def ShapeFlatUptoCardSaid : Prop := Claim7.holds Tryd.pinned (.plain (OpenSpec.upto shapeFlatSpec)) shapeFlatUptoCard
end Rows
end Go.Proofs.YtepmokkhcombmaaDoor
