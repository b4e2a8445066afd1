/-
  No cell of these rows narrows 'for every input' (looked for: loops, veiled, ifaces, maps, wideKeys, modest, calm, conditions, laid).
  DERIVED. THE GIVEN ROWS OF THIS SEAT. 8 by the template 'for every input the law returns true; each argument reads behind the call as it read before'; 0 by the template 'total and deterministic' (their statements: YtilaeefmfiihlaaTotals.lean).
  GIVEN WITH THE SEED: the statements are not yours to turn. If you find one false, say at which input.
  Laid BY PROGRAM, IN A SANDBOX (cutbox-rows.mjs): the forced cells as the released guide's own fill.sh prints them over the translation 86a60109a9a385ed… (all of the seat's roots in one cut). By AI agents, Wed Nov 11 2026. No macro, syntax, notation, axiom, sorry.
-/
import Derived.Test.YtilaeefmfiihlaaChecked
import GoSem.Claim
import GoSem.ClaimJoined
import GoSem.ClaimMapViews
import Derived.JoinedTies
import Derived.KernelRfl
namespace Go.Proofs.Ytilaeefmfiihlaa
/- THE CELL 'sum', in the pinned program and in every row, IS THE sha256 OF THE DUMP (.gsa) THAT YtilaeefmfiihlaaProg.lean LOADS. Nothing in Lean hashes anything: it is a label: what it is worth is what the hold of that sum in a sandbox is worth. -/
noncomputable def Try.pinned : Pinned := { name := "ytilaeefmfiihlaa", sum := "86a60109a9a385edd8c55224b715dcf0b482744e4df9b8df98101bcf7e1d79f7", checked := Try.checked }
namespace Rows
def none {H : Type} : Left H := { results := [], args := [] }

/-- 'tidewaylaw05.FlowOrder': WHATEVER THE INPUT: true; the input reads as it did. -/
def flowOrderSpec : ChangeSpec := { name := "flowOrder", fn := fun _ => fun
  | [d] => { results := [.lit (.bool true)], args := [d] }
  | _ => none }
def flowOrderRow : OpenClaim := { program := "ytilaeefmfiihlaa", sum := "86a60109a9a385edd8c55224b715dcf0b482744e4df9b8df98101bcf7e1d79f7", func := "tideway/tidewaylaw05.FlowOrder", spec := "flowOrder", recurses := true, apart := false }
def FlowOrderSaid : Prop := flowOrderRow.holds Try.pinned (OpenSpec.ofChange flowOrderSpec)

/-- ITS FALSE NEIGHBOUR: 'it returns false'. Refute it at one input. -/
def flowOrderWrong : ChangeSpec := { name := "flowOrder", fn := fun _ => fun
  | [d] => { results := [.lit (.bool false)], args := [d] }
  | _ => none }
def FlowOrderWrongFalsely : Prop := flowOrderRow.holds Try.pinned (OpenSpec.ofChange flowOrderWrong)

/-- 'tidewaylaw05.FlowNext': WHATEVER THE INPUT: true; the input reads as it did. -/
def flowNextSpec : ChangeSpec := { name := "flowNext", fn := fun _ => fun
  | [d1, d2] => { results := [.lit (.bool true)], args := [d1, d2] }
  | _ => none }
def flowNextRow : OpenClaim := { program := "ytilaeefmfiihlaa", sum := "86a60109a9a385edd8c55224b715dcf0b482744e4df9b8df98101bcf7e1d79f7", func := "tideway/tidewaylaw05.FlowNext", spec := "flowNext", recurses := true, apart := false }
def FlowNextSaid : Prop := flowNextRow.holds Try.pinned (OpenSpec.ofChange flowNextSpec)

/-- ITS FALSE NEIGHBOUR: 'it returns false'. Refute it at one input. -/
def flowNextWrong : ChangeSpec := { name := "flowNext", fn := fun _ => fun
  | [d1, d2] => { results := [.lit (.bool false)], args := [d1, d2] }
  | _ => none }
def FlowNextWrongFalsely : Prop := flowNextRow.holds Try.pinned (OpenSpec.ofChange flowNextWrong)

/-- 'tidewaylaw05.FlowBlocks': WHATEVER THE INPUT: true; the input reads as it did. -/
def flowBlocksSpec : ChangeSpec := { name := "flowBlocks", fn := fun _ => fun
  | [d] => { results := [.lit (.bool true)], args := [d] }
  | _ => none }
def flowBlocksRow : OpenClaim := { program := "ytilaeefmfiihlaa", sum := "86a60109a9a385edd8c55224b715dcf0b482744e4df9b8df98101bcf7e1d79f7", func := "tideway/tidewaylaw05.FlowBlocks", spec := "flowBlocks", recurses := true, apart := false }
def FlowBlocksSaid : Prop := flowBlocksRow.holds Try.pinned (OpenSpec.ofChange flowBlocksSpec)

/-- ITS FALSE NEIGHBOUR: 'it returns false'. Refute it at one input. -/
def flowBlocksWrong : ChangeSpec := { name := "flowBlocks", fn := fun _ => fun
  | [d] => { results := [.lit (.bool false)], args := [d] }
  | _ => none }
def FlowBlocksWrongFalsely : Prop := flowBlocksRow.holds Try.pinned (OpenSpec.ofChange flowBlocksWrong)

/-- 'tidewaylaw05.FlowOver': WHATEVER THE INPUT: true; the input reads as it did. -/
def flowOverSpec : ChangeSpec := { name := "flowOver", fn := fun _ => fun
  | [d1, d2] => { results := [.lit (.bool true)], args := [d1, d2] }
  | _ => none }
def flowOverRow : OpenClaim := { program := "ytilaeefmfiihlaa", sum := "86a60109a9a385edd8c55224b715dcf0b482744e4df9b8df98101bcf7e1d79f7", func := "tideway/tidewaylaw05.FlowOver", spec := "flowOver", recurses := true, apart := false }
def FlowOverSaid : Prop := flowOverRow.holds Try.pinned (OpenSpec.ofChange flowOverSpec)

/-- ITS FALSE NEIGHBOUR: 'it returns false'. Refute it at one input. -/
def flowOverWrong : ChangeSpec := { name := "flowOver", fn := fun _ => fun
  | [d1, d2] => { results := [.lit (.bool false)], args := [d1, d2] }
  | _ => none }
def FlowOverWrongFalsely : Prop := flowOverRow.holds Try.pinned (OpenSpec.ofChange flowOverWrong)

/-- 'tidewaylaw05.FlowCovers': WHATEVER THE INPUT: true; the input reads as it did. -/
def flowCoversSpec : ChangeSpec := { name := "flowCovers", fn := fun _ => fun
  | [d] => { results := [.lit (.bool true)], args := [d] }
  | _ => none }
def flowCoversRow : OpenClaim := { program := "ytilaeefmfiihlaa", sum := "86a60109a9a385edd8c55224b715dcf0b482744e4df9b8df98101bcf7e1d79f7", func := "tideway/tidewaylaw05.FlowCovers", spec := "flowCovers", recurses := true, apart := false }
def FlowCoversSaid : Prop := flowCoversRow.holds Try.pinned (OpenSpec.ofChange flowCoversSpec)

/-- ITS FALSE NEIGHBOUR: 'it returns false'. Refute it at one input. -/
def flowCoversWrong : ChangeSpec := { name := "flowCovers", fn := fun _ => fun
  | [d] => { results := [.lit (.bool false)], args := [d] }
  | _ => none }
def FlowCoversWrongFalsely : Prop := flowCoversRow.holds Try.pinned (OpenSpec.ofChange flowCoversWrong)

/-- 'tidewaylaw05.FlowBehind': WHATEVER THE INPUT: true; the input reads as it did. -/
def flowBehindSpec : ChangeSpec := { name := "flowBehind", fn := fun _ => fun
  | [d1, d2] => { results := [.lit (.bool true)], args := [d1, d2] }
  | _ => none }
def flowBehindRow : OpenClaim := { program := "ytilaeefmfiihlaa", sum := "86a60109a9a385edd8c55224b715dcf0b482744e4df9b8df98101bcf7e1d79f7", func := "tideway/tidewaylaw05.FlowBehind", spec := "flowBehind", recurses := true, apart := false }
def FlowBehindSaid : Prop := flowBehindRow.holds Try.pinned (OpenSpec.ofChange flowBehindSpec)

/-- ITS FALSE NEIGHBOUR: 'it returns false'. Refute it at one input. -/
def flowBehindWrong : ChangeSpec := { name := "flowBehind", fn := fun _ => fun
  | [d1, d2] => { results := [.lit (.bool false)], args := [d1, d2] }
  | _ => none }
def FlowBehindWrongFalsely : Prop := flowBehindRow.holds Try.pinned (OpenSpec.ofChange flowBehindWrong)

/-- 'tidewaylaw05.FlowTurned': WHATEVER THE INPUT: true; the input reads as it did. -/
def flowTurnedSpec : ChangeSpec := { name := "flowTurned", fn := fun _ => fun
  | [d] => { results := [.lit (.bool true)], args := [d] }
  | _ => none }
def flowTurnedRow : OpenClaim := { program := "ytilaeefmfiihlaa", sum := "86a60109a9a385edd8c55224b715dcf0b482744e4df9b8df98101bcf7e1d79f7", func := "tideway/tidewaylaw05.FlowTurned", spec := "flowTurned", recurses := true, apart := false }
def FlowTurnedSaid : Prop := flowTurnedRow.holds Try.pinned (OpenSpec.ofChange flowTurnedSpec)

/-- ITS FALSE NEIGHBOUR: 'it returns false'. Refute it at one input. -/
def flowTurnedWrong : ChangeSpec := { name := "flowTurned", fn := fun _ => fun
  | [d] => { results := [.lit (.bool false)], args := [d] }
  | _ => none }
def FlowTurnedWrongFalsely : Prop := flowTurnedRow.holds Try.pinned (OpenSpec.ofChange flowTurnedWrong)

/-- 'tidewaylaw05.FlowFrom': WHATEVER THE INPUT: true; the input reads as it did. -/
def flowFromSpec : ChangeSpec := { name := "flowFrom", fn := fun _ => fun
  | [d1, d2] => { results := [.lit (.bool true)], args := [d1, d2] }
  | _ => none }
def flowFromRow : OpenClaim := { program := "ytilaeefmfiihlaa", sum := "86a60109a9a385edd8c55224b715dcf0b482744e4df9b8df98101bcf7e1d79f7", func := "tideway/tidewaylaw05.FlowFrom", spec := "flowFrom", recurses := true, apart := false }
def FlowFromSaid : Prop := flowFromRow.holds Try.pinned (OpenSpec.ofChange flowFromSpec)

/-- ITS FALSE NEIGHBOUR: 'it returns false'. Refute it at one input. -/
def flowFromWrong : ChangeSpec := { name := "flowFrom", fn := fun _ => fun
  | [d1, d2] => { results := [.lit (.bool false)], args := [d1, d2] }
  | _ => none }
def FlowFromWrongFalsely : Prop := flowFromRow.holds Try.pinned (OpenSpec.ofChange flowFromWrong)

/- THE SECOND FORM. 'bulk': how many values and letters a reading holds, each counted each time it is reached (what is shared counts as often as it is met; a slice's spare places count too). A statement '..UptoSaid' is the law's where the arguments, and the package variables that the reading takes, are together of bulk at most 1048576: NARROWER than '..Said'. Prove '..Said' where nothing that the law and all that it calls make is longer than what came in: it says more and counts as full. Else prove '..UptoSaid'. A law counts once. -/
mutual
def uptoBulk {H : Type} : DataW H → Nat
  | .lit (.string bytes) => bytes.length + 1
  | .lit _ => 1
  | .nil => 1
  | .ptr d => uptoBulk d + 1
  | .slice elems spare => uptoBulkAll elems + uptoBulkAll spare + 1
  | .agg parts => uptoBulkAll parts + 1
  | .iface _ d => uptoBulk d + 1
  | .map entries => uptoBulkEntries entries + 1
  | .held _ => 1
def uptoBulkAll {H : Type} : List (DataW H) → Nat
  | [] => 0
  | d :: r => uptoBulk d + uptoBulkAll r
def uptoBulkEntries {H : Type} : List (Lit × DataW H) → Nat
  | [] => 0
  | x :: r => uptoBulkEntry x + uptoBulkEntries r
def uptoBulkEntry {H : Type} : Lit × DataW H → Nat
  | (.string bytes, d) => bytes.length + uptoBulk d + 1
  | (_, d) => uptoBulk d + 1
 end
def uptoSmall : (H : Type) → List (DataW H) → Bool := fun _ ds => decide (uptoBulkAll ds ≤ 1048576)
def OpenSpec.upto (s : _root_.Go.ChangeSpec) : _root_.Go.OpenSpec := { _root_.Go.OpenSpec.ofChange s with cond := some uptoSmall }

/-- 'tidewaylaw05.FlowOrder', WHERE WHAT IT READS IS OF BULK AT MOST 1048576: true; the input reads as it did. -/
def flowOrderUptoRow : OpenClaim := { program := "ytilaeefmfiihlaa", sum := "86a60109a9a385edd8c55224b715dcf0b482744e4df9b8df98101bcf7e1d79f7", func := "tideway/tidewaylaw05.FlowOrder", spec := "flowOrder", recurses := true, apart := false, narrowed := true }
def FlowOrderUptoSaid : Prop := flowOrderUptoRow.holds Try.pinned (OpenSpec.upto flowOrderSpec)

/-- 'tidewaylaw05.FlowNext', WHERE WHAT IT READS IS OF BULK AT MOST 1048576: true; the input reads as it did. -/
def flowNextUptoRow : OpenClaim := { program := "ytilaeefmfiihlaa", sum := "86a60109a9a385edd8c55224b715dcf0b482744e4df9b8df98101bcf7e1d79f7", func := "tideway/tidewaylaw05.FlowNext", spec := "flowNext", recurses := true, apart := false, narrowed := true }
def FlowNextUptoSaid : Prop := flowNextUptoRow.holds Try.pinned (OpenSpec.upto flowNextSpec)

/-- 'tidewaylaw05.FlowBlocks', WHERE WHAT IT READS IS OF BULK AT MOST 1048576: true; the input reads as it did. -/
def flowBlocksUptoRow : OpenClaim := { program := "ytilaeefmfiihlaa", sum := "86a60109a9a385edd8c55224b715dcf0b482744e4df9b8df98101bcf7e1d79f7", func := "tideway/tidewaylaw05.FlowBlocks", spec := "flowBlocks", recurses := true, apart := false, narrowed := true }
def FlowBlocksUptoSaid : Prop := flowBlocksUptoRow.holds Try.pinned (OpenSpec.upto flowBlocksSpec)

/-- 'tidewaylaw05.FlowOver', WHERE WHAT IT READS IS OF BULK AT MOST 1048576: true; the input reads as it did. -/
def flowOverUptoRow : OpenClaim := { program := "ytilaeefmfiihlaa", sum := "86a60109a9a385edd8c55224b715dcf0b482744e4df9b8df98101bcf7e1d79f7", func := "tideway/tidewaylaw05.FlowOver", spec := "flowOver", recurses := true, apart := false, narrowed := true }
def FlowOverUptoSaid : Prop := flowOverUptoRow.holds Try.pinned (OpenSpec.upto flowOverSpec)

/-- 'tidewaylaw05.FlowCovers', WHERE WHAT IT READS IS OF BULK AT MOST 1048576: true; the input reads as it did. -/
def flowCoversUptoRow : OpenClaim := { program := "ytilaeefmfiihlaa", sum := "86a60109a9a385edd8c55224b715dcf0b482744e4df9b8df98101bcf7e1d79f7", func := "tideway/tidewaylaw05.FlowCovers", spec := "flowCovers", recurses := true, apart := false, narrowed := true }
def FlowCoversUptoSaid : Prop := flowCoversUptoRow.holds Try.pinned (OpenSpec.upto flowCoversSpec)

/-- 'tidewaylaw05.FlowBehind', WHERE WHAT IT READS IS OF BULK AT MOST 1048576: true; the input reads as it did. -/
def flowBehindUptoRow : OpenClaim := { program := "ytilaeefmfiihlaa", sum := "86a60109a9a385edd8c55224b715dcf0b482744e4df9b8df98101bcf7e1d79f7", func := "tideway/tidewaylaw05.FlowBehind", spec := "flowBehind", recurses := true, apart := false, narrowed := true }
def FlowBehindUptoSaid : Prop := flowBehindUptoRow.holds Try.pinned (OpenSpec.upto flowBehindSpec)

/-- 'tidewaylaw05.FlowTurned', WHERE WHAT IT READS IS OF BULK AT MOST 1048576: true; the input reads as it did. -/
def flowTurnedUptoRow : OpenClaim := { program := "ytilaeefmfiihlaa", sum := "86a60109a9a385edd8c55224b715dcf0b482744e4df9b8df98101bcf7e1d79f7", func := "tideway/tidewaylaw05.FlowTurned", spec := "flowTurned", recurses := true, apart := false, narrowed := true }
def FlowTurnedUptoSaid : Prop := flowTurnedUptoRow.holds Try.pinned (OpenSpec.upto flowTurnedSpec)

/-- 'tidewaylaw05.FlowFrom', WHERE WHAT IT READS IS OF BULK AT MOST 1048576: true; the input reads as it did. -/
def flowFromUptoRow : OpenClaim := { program := "ytilaeefmfiihlaa", sum := "86a60109a9a385edd8c55224b715dcf0b482744e4df9b8df98101bcf7e1d79f7", func := "tideway/tidewaylaw05.FlowFrom", spec := "flowFrom", recurses := true, apart := false, narrowed := true }
def FlowFromUptoSaid : Prop := flowFromUptoRow.holds Try.pinned (OpenSpec.upto flowFromSpec)

end Rows
end Go.Proofs.Ytilaeefmfiihlaa
