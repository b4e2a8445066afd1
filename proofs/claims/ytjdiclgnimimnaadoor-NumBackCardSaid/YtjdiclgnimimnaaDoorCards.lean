/-
  DERIVED. GIVEN WITH THE SEED: THE CARDS: each row of YtjdiclgnimimnaaDoorRows.lean that lists a variable, with what it lists TIED to the program's text (the seventh form; the later family's looks); each row that meets fmt, with fmt's text TOLD by the authors' own Lean function (tested against real Go, not proved from fmt's source: count such statements apart). THE CARD IS WHAT COUNTS. Prove the row's statement (the work); the ties are given (YtjdiclgnimimnaaDoorTie.lean); close each card by the builder's one call (the guide's Derived/Test/ToyasCard.lean, 'card_holds'). Laid BY PROGRAM, IN A SANDBOX (cutbox-door.mjs). By AI agents, Wed Nov 11 2026. No macro, syntax, notation, axiom, sorry.
-/
import Derived.Test.YtjdiclgnimimnaaDoorRows
import GoSem.ClaimSeven
namespace Go.Proofs.YtjdiclgnimimnaaDoor
namespace Rows

/-- THE TIED CARD OF 'tidewaylaw01.NumWraps'. -/
def numWrapsCard : Claim7 := { stood := { row := numWrapsRow, standIns := [], harness := (true, "bd606509526765b8d1c95e531824eba85d25f941eb650fd1fdfbb110b62ef433"), looks := true }, kinds := [], alts := [], laidByText := true, laidKinds := [.data, .data, .data, .sentinel, .sentinel], laidTests := true, laidLooks := .later }
def NumWrapsCardSaid : Prop := Claim7.holds Tryd.pinned (.plain (OpenSpec.ofChange numWrapsSpec)) numWrapsCard

/-- THE TIED CARD OF 'tidewaylaw01.NumDivides'. -/
def numDividesCard : Claim7 := { stood := { row := numDividesRow, standIns := [], harness := (true, "bd606509526765b8d1c95e531824eba85d25f941eb650fd1fdfbb110b62ef433"), looks := true }, kinds := [], alts := [], laidByText := true, laidKinds := [.data, .data, .data, .sentinel, .sentinel], laidTests := true, laidLooks := .later }
def NumDividesCardSaid : Prop := Claim7.holds Tryd.pinned (.plain (OpenSpec.ofChange numDividesSpec)) numDividesCard

/-- THE TIED CARD OF 'tidewaylaw01.NumWrites'. -/
def numWritesCard : Claim7 := { stood := { row := numWritesRow, standIns := [], harness := (true, "bd606509526765b8d1c95e531824eba85d25f941eb650fd1fdfbb110b62ef433"), looks := true }, kinds := [], alts := [], laidByText := true, laidKinds := [.data, .data, .data, .sentinel, .sentinel], laidTests := true, laidLooks := .later }
def NumWritesCardSaid : Prop := Claim7.holds Tryd.pinned (.plain (OpenSpec.ofChange numWritesSpec)) numWritesCard

/-- THE TIED CARD OF 'tidewaylaw01.NumBack'. -/
def numBackCard : Claim7 := { stood := { row := numBackRow, standIns := [], harness := (true, "bd606509526765b8d1c95e531824eba85d25f941eb650fd1fdfbb110b62ef433"), looks := true }, kinds := [], alts := [], laidByText := true, laidKinds := [.data, .data, .data, .sentinel, .sentinel], laidTests := true, laidLooks := .later }
def NumBackCardSaid : Prop := Claim7.holds Tryd.pinned (.plain (OpenSpec.ofChange numBackSpec)) numBackCard

/-- THE TIED CARD OF 'tidewaylaw01.NumWrapped'. -/
def numWrappedCard : Claim7 := { stood := { row := numWrappedRow, standIns := [], harness := (true, "bd606509526765b8d1c95e531824eba85d25f941eb650fd1fdfbb110b62ef433"), looks := true }, kinds := [], alts := [], laidByText := true, laidKinds := [.data, .data, .data, .sentinel, .sentinel], laidTests := true, laidLooks := .later }
def NumWrappedCardSaid : Prop := Claim7.holds Tryd.pinned (.plain (OpenSpec.ofChange numWrappedSpec)) numWrappedCard

/-- THE TIED CARD OF 'tidewaylaw01.NumReckons'. -/
def numReckonsCard : Claim7 := { stood := { row := numReckonsRow, standIns := [], harness := (true, "bd606509526765b8d1c95e531824eba85d25f941eb650fd1fdfbb110b62ef433"), looks := true }, kinds := [], alts := [], laidByText := true, laidKinds := [.data, .data, .data, .sentinel, .sentinel], laidTests := true, laidLooks := .later }
def NumReckonsCardSaid : Prop := Claim7.holds Tryd.pinned (.plain (OpenSpec.ofChange numReckonsSpec)) numReckonsCard

/-- THE TIED CARD OF 'tidewaylaw01.NumRing'. -/
def numRingCard : Claim7 := { stood := { row := numRingRow, standIns := [], harness := (true, "bd606509526765b8d1c95e531824eba85d25f941eb650fd1fdfbb110b62ef433"), looks := true }, kinds := [], alts := [], laidByText := true, laidKinds := [.data, .data, .data, .sentinel, .sentinel], laidTests := true, laidLooks := .later }
def NumRingCardSaid : Prop := Claim7.holds Tryd.pinned (.plain (OpenSpec.ofChange numRingSpec)) numRingCard

/-- THE TIED CARD OF 'tidewaylaw01.NumLeft'. -/
def numLeftCard : Claim7 := { stood := { row := numLeftRow, standIns := [], harness := (true, "bd606509526765b8d1c95e531824eba85d25f941eb650fd1fdfbb110b62ef433"), looks := true }, kinds := [], alts := [], laidByText := true, laidKinds := [.data, .data, .data, .sentinel, .sentinel], laidTests := true, laidLooks := .later }
def NumLeftCardSaid : Prop := Claim7.holds Tryd.pinned (.plain (OpenSpec.ofChange numLeftSpec)) numLeftCard

/-- THE SECOND FORM's CARD OF 'tidewaylaw01.NumWraps'. -/
def numWrapsUptoCard : Claim7 := { stood := { row := numWrapsUptoRow, standIns := [], harness := (true, "bd606509526765b8d1c95e531824eba85d25f941eb650fd1fdfbb110b62ef433"), looks := true }, kinds := [], alts := [], laidByText := true, laidKinds := [.data, .data, .data, .sentinel, .sentinel], laidTests := true, laidLooks := .later }
def NumWrapsUptoCardSaid : Prop := Claim7.holds Tryd.pinned (.plain (OpenSpec.upto numWrapsSpec)) numWrapsUptoCard

/-- THE SECOND FORM's CARD OF 'tidewaylaw01.NumDivides'. -/
def numDividesUptoCard : Claim7 := { stood := { row := numDividesUptoRow, standIns := [], harness := (true, "bd606509526765b8d1c95e531824eba85d25f941eb650fd1fdfbb110b62ef433"), looks := true }, kinds := [], alts := [], laidByText := true, laidKinds := [.data, .data, .data, .sentinel, .sentinel], laidTests := true, laidLooks := .later }
def NumDividesUptoCardSaid : Prop := Claim7.holds Tryd.pinned (.plain (OpenSpec.upto numDividesSpec)) numDividesUptoCard

/-- THE SECOND FORM's CARD OF 'tidewaylaw01.NumWrites'. -/
def numWritesUptoCard : Claim7 := { stood := { row := numWritesUptoRow, standIns := [], harness := (true, "bd606509526765b8d1c95e531824eba85d25f941eb650fd1fdfbb110b62ef433"), looks := true }, kinds := [], alts := [], laidByText := true, laidKinds := [.data, .data, .data, .sentinel, .sentinel], laidTests := true, laidLooks := .later }
def NumWritesUptoCardSaid : Prop := Claim7.holds Tryd.pinned (.plain (OpenSpec.upto numWritesSpec)) numWritesUptoCard

/-- THE SECOND FORM's CARD OF 'tidewaylaw01.NumBack'. -/
def numBackUptoCard : Claim7 := { stood := { row := numBackUptoRow, standIns := [], harness := (true, "bd606509526765b8d1c95e531824eba85d25f941eb650fd1fdfbb110b62ef433"), looks := true }, kinds := [], alts := [], laidByText := true, laidKinds := [.data, .data, .data, .sentinel, .sentinel], laidTests := true, laidLooks := .later }
def NumBackUptoCardSaid : Prop := Claim7.holds Tryd.pinned (.plain (OpenSpec.upto numBackSpec)) numBackUptoCard

/-- THE SECOND FORM's CARD OF 'tidewaylaw01.NumWrapped'. -/
def numWrappedUptoCard : Claim7 := { stood := { row := numWrappedUptoRow, standIns := [], harness := (true, "bd606509526765b8d1c95e531824eba85d25f941eb650fd1fdfbb110b62ef433"), looks := true }, kinds := [], alts := [], laidByText := true, laidKinds := [.data, .data, .data, .sentinel, .sentinel], laidTests := true, laidLooks := .later }
def NumWrappedUptoCardSaid : Prop := Claim7.holds Tryd.pinned (.plain (OpenSpec.upto numWrappedSpec)) numWrappedUptoCard

/-- THE SECOND FORM's CARD OF 'tidewaylaw01.NumReckons'. -/
def numReckonsUptoCard : Claim7 := { stood := { row := numReckonsUptoRow, standIns := [], harness := (true, "bd606509526765b8d1c95e531824eba85d25f941eb650fd1fdfbb110b62ef433"), looks := true }, kinds := [], alts := [], laidByText := true, laidKinds := [.data, .data, .data, .sentinel, .sentinel], laidTests := true, laidLooks := .later }
def NumReckonsUptoCardSaid : Prop := Claim7.holds Tryd.pinned (.plain (OpenSpec.upto numReckonsSpec)) numReckonsUptoCard

/-- THE SECOND FORM's CARD OF 'tidewaylaw01.NumRing'. -/
def numRingUptoCard : Claim7 := { stood := { row := numRingUptoRow, standIns := [], harness := (true, "bd606509526765b8d1c95e531824eba85d25f941eb650fd1fdfbb110b62ef433"), looks := true }, kinds := [], alts := [], laidByText := true, laidKinds := [.data, .data, .data, .sentinel, .sentinel], laidTests := true, laidLooks := .later }
def NumRingUptoCardSaid : Prop := Claim7.holds Tryd.pinned (.plain (OpenSpec.upto numRingSpec)) numRingUptoCard

/-- THE SECOND FORM's CARD OF 'tidewaylaw01.NumLeft'. -/
def numLeftUptoCard : Claim7 := { stood := { row := numLeftUptoRow, standIns := [], harness := (true, "bd606509526765b8d1c95e531824eba85d25f941eb650fd1fdfbb110b62ef433"), looks := true }, kinds := [], alts := [], laidByText := true, laidKinds := [.data, .data, .data, .sentinel, .sentinel], laidTests := true, laidLooks := .later }
def NumLeftUptoCardSaid : Prop := Claim7.holds Tryd.pinned (.plain (OpenSpec.upto numLeftSpec)) numLeftUptoCard
end Rows
end Go.Proofs.YtjdiclgnimimnaaDoor
