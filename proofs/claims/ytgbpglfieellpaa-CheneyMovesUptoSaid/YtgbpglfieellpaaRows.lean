/-
  No cell of these rows narrows 'for every input' (looked for: loops, veiled, ifaces, maps, wideKeys, modest, calm, conditions, laid).
  DERIVED. THE GIVEN ROWS OF THIS SEAT. 4 by the template 'for every input the law returns true; each argument reads behind the call as it read before'; 0 by the template 'total and deterministic' (their statements: YtgbpglfieellpaaTotals.lean).
  GIVEN WITH THE SEED: the statements are not yours to turn. If you find one false, say at which input.
  Laid BY PROGRAM, IN A SANDBOX (cutbox-rows.mjs): the forced cells as the released guide's own fill.sh prints them over the translation 7ba9d6c50843e903… (all of the seat's roots in one cut). By AI agents, Wed Nov 11 2026. No macro, syntax, notation, axiom, sorry.
-/
import Derived.Test.YtgbpglfieellpaaChecked
import GoSem.Claim
import GoSem.ClaimJoined
import GoSem.ClaimMapViews
import Derived.JoinedTies
import Derived.KernelRfl
namespace Go.Proofs.Ytgbpglfieellpaa
/- THE CELL 'sum', in the pinned program and in every row, IS THE sha256 OF THE DUMP (.gsa) THAT YtgbpglfieellpaaProg.lean LOADS. Nothing in Lean hashes anything: it is a label: what it is worth is what the hold of that sum in a sandbox is worth. -/
noncomputable def Try.pinned : Pinned := { name := "ytgbpglfieellpaa", sum := "7ba9d6c50843e9038edf08ec89c786968acb21ea8e1504ee93d40de7ef124e38", checked := Try.checked }
namespace Rows
def none {H : Type} : Left H := { results := [], args := [] }

/-- 'tidewaylaw13.CheneyEnds': WHATEVER THE INPUT: true; the input reads as it did. -/
def cheneyEndsSpec : ChangeSpec := { name := "cheneyEnds", fn := fun _ => fun
  | [d1, d2, d3, d4] => { results := [.lit (.bool true)], args := [d1, d2, d3, d4] }
  | _ => none }
def cheneyEndsRow : OpenClaim := { program := "ytgbpglfieellpaa", sum := "7ba9d6c50843e9038edf08ec89c786968acb21ea8e1504ee93d40de7ef124e38", func := "tideway/tidewaylaw13.CheneyEnds", spec := "cheneyEnds", unfollowed := true, recurses := true, apart := false }
def CheneyEndsSaid : Prop := cheneyEndsRow.holds Try.pinned (OpenSpec.ofChange cheneyEndsSpec)

/-- ITS FALSE NEIGHBOUR: 'it returns false'. Refute it at one input. -/
def cheneyEndsWrong : ChangeSpec := { name := "cheneyEnds", fn := fun _ => fun
  | [d1, d2, d3, d4] => { results := [.lit (.bool false)], args := [d1, d2, d3, d4] }
  | _ => none }
def CheneyEndsWrongFalsely : Prop := cheneyEndsRow.holds Try.pinned (OpenSpec.ofChange cheneyEndsWrong)

/-- 'tidewaylaw13.CheneyLess': WHATEVER THE INPUT: true; the input reads as it did. -/
def cheneyLessSpec : ChangeSpec := { name := "cheneyLess", fn := fun _ => fun
  | [d1, d2, d3, d4] => { results := [.lit (.bool true)], args := [d1, d2, d3, d4] }
  | _ => none }
def cheneyLessRow : OpenClaim := { program := "ytgbpglfieellpaa", sum := "7ba9d6c50843e9038edf08ec89c786968acb21ea8e1504ee93d40de7ef124e38", func := "tideway/tidewaylaw13.CheneyLess", spec := "cheneyLess", unfollowed := true, recurses := true, apart := false }
def CheneyLessSaid : Prop := cheneyLessRow.holds Try.pinned (OpenSpec.ofChange cheneyLessSpec)

/-- ITS FALSE NEIGHBOUR: 'it returns false'. Refute it at one input. -/
def cheneyLessWrong : ChangeSpec := { name := "cheneyLess", fn := fun _ => fun
  | [d1, d2, d3, d4] => { results := [.lit (.bool false)], args := [d1, d2, d3, d4] }
  | _ => none }
def CheneyLessWrongFalsely : Prop := cheneyLessRow.holds Try.pinned (OpenSpec.ofChange cheneyLessWrong)

/-- 'tidewaylaw13.CheneyMoves': WHATEVER THE INPUT: true; the input reads as it did. -/
def cheneyMovesSpec : ChangeSpec := { name := "cheneyMoves", fn := fun _ => fun
  | [d1, d2, d3, d4, d5, d6] => { results := [.lit (.bool true)], args := [d1, d2, d3, d4, d5, d6] }
  | _ => none }
def cheneyMovesRow : OpenClaim := { program := "ytgbpglfieellpaa", sum := "7ba9d6c50843e9038edf08ec89c786968acb21ea8e1504ee93d40de7ef124e38", func := "tideway/tidewaylaw13.CheneyMoves", spec := "cheneyMoves", unfollowed := true, recurses := true, apart := false }
def CheneyMovesSaid : Prop := cheneyMovesRow.holds Try.pinned (OpenSpec.ofChange cheneyMovesSpec)

/-- ITS FALSE NEIGHBOUR: 'it returns false'. Refute it at one input. -/
def cheneyMovesWrong : ChangeSpec := { name := "cheneyMoves", fn := fun _ => fun
  | [d1, d2, d3, d4, d5, d6] => { results := [.lit (.bool false)], args := [d1, d2, d3, d4, d5, d6] }
  | _ => none }
def CheneyMovesWrongFalsely : Prop := cheneyMovesRow.holds Try.pinned (OpenSpec.ofChange cheneyMovesWrong)

/-- 'tidewaylaw13.CheneyLives': WHATEVER THE INPUT: true; the input reads as it did. -/
def cheneyLivesSpec : ChangeSpec := { name := "cheneyLives", fn := fun _ => fun
  | [d1, d2, d3, d4, d5] => { results := [.lit (.bool true)], args := [d1, d2, d3, d4, d5] }
  | _ => none }
def cheneyLivesRow : OpenClaim := { program := "ytgbpglfieellpaa", sum := "7ba9d6c50843e9038edf08ec89c786968acb21ea8e1504ee93d40de7ef124e38", func := "tideway/tidewaylaw13.CheneyLives", spec := "cheneyLives", unfollowed := true, recurses := true, apart := false }
def CheneyLivesSaid : Prop := cheneyLivesRow.holds Try.pinned (OpenSpec.ofChange cheneyLivesSpec)

/-- ITS FALSE NEIGHBOUR: 'it returns false'. Refute it at one input. -/
def cheneyLivesWrong : ChangeSpec := { name := "cheneyLives", fn := fun _ => fun
  | [d1, d2, d3, d4, d5] => { results := [.lit (.bool false)], args := [d1, d2, d3, d4, d5] }
  | _ => none }
def CheneyLivesWrongFalsely : Prop := cheneyLivesRow.holds Try.pinned (OpenSpec.ofChange cheneyLivesWrong)

/- THE SECOND FORM. 'bulk': how many values and letters a reading holds, each counted each time it is reached (what is shared counts as often as it is met; a slice's spare places count too). A statement '..UptoSaid' is the law's where the arguments, and the package variables that the reading takes, are together of bulk at most 1048576: NARROWER than '..Said'. Prove '..Said' where nothing that the law and all that it calls make is longer than what came in: it says more and counts as full. Else prove '..UptoSaid'. A law counts once. -/
mutual
def uptoBulk {H : Type} : DataW H → Nat
  | .lit (.string bytes) => bytes.length + 1
  | .lit _ => 1
  | .nil => 1
  | .ptr d => uptoBulk d + 1
  | .slice elems spare => uptoBulkAll elems + uptoBulkAll spare + 1
  | .agg parts => uptoBulkAll parts + 1
  | .iface _ d => uptoBulk d + 1
  | .map entries => uptoBulkEntries entries + 1
  | .held _ => 1
def uptoBulkAll {H : Type} : List (DataW H) → Nat
  | [] => 0
  | d :: r => uptoBulk d + uptoBulkAll r
def uptoBulkEntries {H : Type} : List (Lit × DataW H) → Nat
  | [] => 0
  | x :: r => uptoBulkEntry x + uptoBulkEntries r
def uptoBulkEntry {H : Type} : Lit × DataW H → Nat
  | (.string bytes, d) => bytes.length + uptoBulk d + 1
  | (_, d) => uptoBulk d + 1
 end
def uptoSmall : (H : Type) → List (DataW H) → Bool := fun _ ds => decide (uptoBulkAll ds ≤ 1048576)
def OpenSpec.upto (s : _root_.Go.ChangeSpec) : _root_.Go.OpenSpec := { _root_.Go.OpenSpec.ofChange s with cond := some uptoSmall }

/-- 'tidewaylaw13.CheneyEnds', WHERE WHAT IT READS IS OF BULK AT MOST 1048576: true; the input reads as it did. -/
def cheneyEndsUptoRow : OpenClaim := { program := "ytgbpglfieellpaa", sum := "7ba9d6c50843e9038edf08ec89c786968acb21ea8e1504ee93d40de7ef124e38", func := "tideway/tidewaylaw13.CheneyEnds", spec := "cheneyEnds", unfollowed := true, recurses := true, apart := false, narrowed := true }
def CheneyEndsUptoSaid : Prop := cheneyEndsUptoRow.holds Try.pinned (OpenSpec.upto cheneyEndsSpec)

/-- 'tidewaylaw13.CheneyLess', WHERE WHAT IT READS IS OF BULK AT MOST 1048576: true; the input reads as it did. -/
def cheneyLessUptoRow : OpenClaim := { program := "ytgbpglfieellpaa", sum := "7ba9d6c50843e9038edf08ec89c786968acb21ea8e1504ee93d40de7ef124e38", func := "tideway/tidewaylaw13.CheneyLess", spec := "cheneyLess", unfollowed := true, recurses := true, apart := false, narrowed := true }
def CheneyLessUptoSaid : Prop := cheneyLessUptoRow.holds Try.pinned (OpenSpec.upto cheneyLessSpec)

/-- 'tidewaylaw13.CheneyMoves', WHERE WHAT IT READS IS OF BULK AT MOST 1048576: true; the input reads as it did. -/
def cheneyMovesUptoRow : OpenClaim := { program := "ytgbpglfieellpaa", sum := "7ba9d6c50843e9038edf08ec89c786968acb21ea8e1504ee93d40de7ef124e38", func := "tideway/tidewaylaw13.CheneyMoves", spec := "cheneyMoves", unfollowed := true, recurses := true, apart := false, narrowed := true }
def CheneyMovesUptoSaid : Prop := cheneyMovesUptoRow.holds Try.pinned (OpenSpec.upto cheneyMovesSpec)

/-- 'tidewaylaw13.CheneyLives', WHERE WHAT IT READS IS OF BULK AT MOST 1048576: true; the input reads as it did. -/
def cheneyLivesUptoRow : OpenClaim := { program := "ytgbpglfieellpaa", sum := "7ba9d6c50843e9038edf08ec89c786968acb21ea8e1504ee93d40de7ef124e38", func := "tideway/tidewaylaw13.CheneyLives", spec := "cheneyLives", unfollowed := true, recurses := true, apart := false, narrowed := true }
def CheneyLivesUptoSaid : Prop := cheneyLivesUptoRow.holds Try.pinned (OpenSpec.upto cheneyLivesSpec)

end Rows
end Go.Proofs.Ytgbpglfieellpaa
