/-
  DERIVED. GIVEN WITH THE SEED: THE CARDS: each row of YtfppdkkbekkhbaaDoorRows.lean that lists a variable, with what it lists TIED to the program's text (the seventh form; the later family's looks); each row that meets fmt, with fmt's text TOLD by the authors' own Lean function (tested against real Go, not proved from fmt's source: count such statements apart). THE CARD IS WHAT COUNTS. Prove the row's statement (the work); the ties are given (YtfppdkkbekkhbaaDoorTie.lean); close each card by the builder's one call (the guide's Derived/Test/ToyasCard.lean, 'card_holds'). Laid BY PROGRAM, IN A SANDBOX (cutbox-door.mjs). By AI agents, Wed Nov 11 2026. No macro, syntax, notation, axiom, sorry.
-/
import Derived.Test.YtfppdkkbekkhbaaDoorRows
import GoSem.ClaimSeven
namespace Go.Proofs.YtfppdkkbekkhbaaDoor
namespace Rows

/-- THE TIED CARD OF 'tidewaylaw06.FrameJoins'. -/
def frameJoinsCard : Claim7 := { stood := { row := frameJoinsRow, standIns := [], harness := (true, "8d2d90121bb028bf39b38089d608d1f2f4ae503df029d723ed02ab67fb334116"), looks := false }, kinds := [], alts := [], laidByText := true, laidKinds := [.data, .data, .data], laidTests := true, laidLooks := .later }
def FrameJoinsCardSaid : Prop := Claim7.holds Tryd.pinned (.plain (OpenSpec.ofChange frameJoinsSpec)) frameJoinsCard

/-- THE TIED CARD OF 'tidewaylaw06.FrameTexts'. -/
def frameTextsCard : Claim7 := { stood := { row := frameTextsRow, standIns := [], harness := (true, "8d2d90121bb028bf39b38089d608d1f2f4ae503df029d723ed02ab67fb334116"), looks := false }, kinds := [], alts := [], laidByText := true, laidKinds := [.data, .data, .data], laidTests := true, laidLooks := .later }
def FrameTextsCardSaid : Prop := Claim7.holds Tryd.pinned (.plain (OpenSpec.ofChange frameTextsSpec)) frameTextsCard

/-- THE TIED CARD OF 'tidewaylaw06.FrameLess'. -/
def frameLessCard : Claim7 := { stood := { row := frameLessRow, standIns := [], harness := (true, "8d2d90121bb028bf39b38089d608d1f2f4ae503df029d723ed02ab67fb334116"), looks := false }, kinds := [], alts := [], laidByText := true, laidKinds := [.data, .data, .data], laidTests := true, laidLooks := .later }
def FrameLessCardSaid : Prop := Claim7.holds Tryd.pinned (.plain (OpenSpec.ofChange frameLessSpec)) frameLessCard

/-- THE TIED CARD OF 'tidewaylaw06.FrameMost'. -/
def frameMostCard : Claim7 := { stood := { row := frameMostRow, standIns := [], harness := (true, "8d2d90121bb028bf39b38089d608d1f2f4ae503df029d723ed02ab67fb334116"), looks := false }, kinds := [], alts := [], laidByText := true, laidKinds := [.data, .data, .data], laidTests := true, laidLooks := .later }
def FrameMostCardSaid : Prop := Claim7.holds Tryd.pinned (.plain (OpenSpec.ofChange frameMostSpec)) frameMostCard

/-- THE TIED CARD OF 'tidewaylaw06.FrameThree'. -/
def frameThreeCard : Claim7 := { stood := { row := frameThreeRow, standIns := [], harness := (true, "8d2d90121bb028bf39b38089d608d1f2f4ae503df029d723ed02ab67fb334116"), looks := false }, kinds := [], alts := [], laidByText := true, laidKinds := [.data, .data, .data], laidTests := true, laidLooks := .later }
def FrameThreeCardSaid : Prop := Claim7.holds Tryd.pinned (.plain (OpenSpec.ofChange frameThreeSpec)) frameThreeCard

/-- THE TIED CARD OF 'tidewaylaw06.FrameNothing'. -/
def frameNothingCard : Claim7 := { stood := { row := frameNothingRow, standIns := [], harness := (true, "8d2d90121bb028bf39b38089d608d1f2f4ae503df029d723ed02ab67fb334116"), looks := false }, kinds := [], alts := [], laidByText := true, laidKinds := [.data, .data, .data], laidTests := true, laidLooks := .later }
def FrameNothingCardSaid : Prop := Claim7.holds Tryd.pinned (.plain (OpenSpec.ofChange frameNothingSpec)) frameNothingCard

/-- THE TIED CARD OF 'tidewaylaw06.FrameEntries'. -/
def frameEntriesCard : Claim7 := { stood := { row := frameEntriesRow, standIns := [], harness := (true, "8d2d90121bb028bf39b38089d608d1f2f4ae503df029d723ed02ab67fb334116"), looks := false }, kinds := [], alts := [], laidByText := true, laidKinds := [.data, .data, .data], laidTests := true, laidLooks := .later }
def FrameEntriesCardSaid : Prop := Claim7.holds Tryd.pinned (.plain (OpenSpec.ofChange frameEntriesSpec)) frameEntriesCard

/-- THE TIED CARD OF 'tidewaylaw06.FrameMaps'. -/
def frameMapsCard : Claim7 := { stood := { row := frameMapsRow, standIns := [], harness := (true, "8d2d90121bb028bf39b38089d608d1f2f4ae503df029d723ed02ab67fb334116"), looks := false }, kinds := [], alts := [], laidByText := true, laidKinds := [.data, .data, .data], laidTests := true, laidLooks := .later }
def FrameMapsCardSaid : Prop := Claim7.holds Tryd.pinned (.plain (OpenSpec.ofChange frameMapsSpec)) frameMapsCard

/-- THE SECOND FORM's CARD OF 'tidewaylaw06.FrameJoins'. -/
def frameJoinsUptoCard : Claim7 := { stood := { row := frameJoinsUptoRow, standIns := [], harness := (true, "8d2d90121bb028bf39b38089d608d1f2f4ae503df029d723ed02ab67fb334116"), looks := false }, kinds := [], alts := [], laidByText := true, laidKinds := [.data, .data, .data], laidTests := true, laidLooks := .later }
def FrameJoinsUptoCardSaid : Prop := Claim7.holds Tryd.pinned (.plain (OpenSpec.upto frameJoinsSpec)) frameJoinsUptoCard

/-- THE SECOND FORM's CARD OF 'tidewaylaw06.FrameTexts'. -/
def frameTextsUptoCard : Claim7 := { stood := { row := frameTextsUptoRow, standIns := [], harness := (true, "8d2d90121bb028bf39b38089d608d1f2f4ae503df029d723ed02ab67fb334116"), looks := false }, kinds := [], alts := [], laidByText := true, laidKinds := [.data, .data, .data], laidTests := true, laidLooks := .later }
def FrameTextsUptoCardSaid : Prop := Claim7.holds Tryd.pinned (.plain (OpenSpec.upto frameTextsSpec)) frameTextsUptoCard

/-- THE SECOND FORM's CARD OF 'tidewaylaw06.FrameLess'. -/
def frameLessUptoCard : Claim7 := { stood := { row := frameLessUptoRow, standIns := [], harness := (true, "8d2d90121bb028bf39b38089d608d1f2f4ae503df029d723ed02ab67fb334116"), looks := false }, kinds := [], alts := [], laidByText := true, laidKinds := [.data, .data, .data], laidTests := true, laidLooks := .later }
def FrameLessUptoCardSaid : Prop := Claim7.holds Tryd.pinned (.plain (OpenSpec.upto frameLessSpec)) frameLessUptoCard

/-- THE SECOND FORM's CARD OF 'tidewaylaw06.FrameMost'. -/
def frameMostUptoCard : Claim7 := { stood := { row := frameMostUptoRow, standIns := [], harness := (true, "8d2d90121bb028bf39b38089d608d1f2f4ae503df029d723ed02ab67fb334116"), looks := false }, kinds := [], alts := [], laidByText := true, laidKinds := [.data, .data, .data], laidTests := true, laidLooks := .later }
def FrameMostUptoCardSaid : Prop := Claim7.holds Tryd.pinned (.plain (OpenSpec.upto frameMostSpec)) frameMostUptoCard

/-- THE SECOND FORM's CARD OF 'tidewaylaw06.FrameThree'. -/
def frameThreeUptoCard : Claim7 := { stood := { row := frameThreeUptoRow, standIns := [], harness := (true, "8d2d90121bb028bf39b38089d608d1f2f4ae503df029d723ed02ab67fb334116"), looks := false }, kinds := [], alts := [], laidByText := true, laidKinds := [.data, .data, .data], laidTests := true, laidLooks := .later }
def FrameThreeUptoCardSaid : Prop := Claim7.holds Tryd.pinned (.plain (OpenSpec.upto frameThreeSpec)) frameThreeUptoCard

/-- THE SECOND FORM's CARD OF 'tidewaylaw06.FrameNothing'. -/
def frameNothingUptoCard : Claim7 := { stood := { row := frameNothingUptoRow, standIns := [], harness := (true, "8d2d90121bb028bf39b38089d608d1f2f4ae503df029d723ed02ab67fb334116"), looks := false }, kinds := [], alts := [], laidByText := true, laidKinds := [.data, .data, .data], laidTests := true, laidLooks := .later }
def FrameNothingUptoCardSaid : Prop := Claim7.holds Tryd.pinned (.plain (OpenSpec.upto frameNothingSpec)) frameNothingUptoCard

/-- THE SECOND FORM's CARD OF 'tidewaylaw06.FrameEntries'. -/
def frameEntriesUptoCard : Claim7 := { stood := { row := frameEntriesUptoRow, standIns := [], harness := (true, "8d2d90121bb028bf39b38089d608d1f2f4ae503df029d723ed02ab67fb334116"), looks := false }, kinds := [], alts := [], laidByText := true, laidKinds := [.data, .data, .data], laidTests := true, laidLooks := .later }
def FrameEntriesUptoCardSaid : Prop := Claim7.holds Tryd.pinned (.plain (OpenSpec.upto frameEntriesSpec)) frameEntriesUptoCard

/-- THE SECOND FORM's CARD OF 'tidewaylaw06.FrameMaps'. -/
def frameMapsUptoCard : Claim7 := { stood := { row := frameMapsUptoRow, standIns := [], harness := (true, "8d2d90121bb028bf39b38089d608d1f2f4ae503df029d723ed02ab67fb334116"), looks := false }, kinds := [], alts := [], laidByText := true, laidKinds := [.data, .data, .data], laidTests := true, laidLooks := .later }
def FrameMapsUptoCardSaid : Prop := Claim7.holds Tryd.pinned (.plain (OpenSpec.upto frameMapsSpec)) frameMapsUptoCard
end Rows
end Go.Proofs.YtfppdkkbekkhbaaDoor
