/-
  No cell of these rows narrows 'for every input' (looked for: loops, veiled, ifaces, maps, wideKeys, modest, calm, conditions, laid).
  DERIVED. THE GIVEN ROWS OF THIS SEAT. 8 by the template 'for every input the law returns true; each argument reads behind the call as it read before'; 0 by the template 'total and deterministic' (their statements: YtcmmdaginkhomaaTotals.lean).
  GIVEN WITH THE SEED: the statements are not yours to turn. If you find one false, say at which input.
  Laid BY PROGRAM, IN A SANDBOX (cutbox-rows.mjs): the forced cells as the released guide's own fill.sh prints them over the translation c58c955a3bf3e51b… (all of the seat's roots in one cut). By AI agents, Wed Nov 11 2026. No macro, syntax, notation, axiom, sorry.
-/
import Derived.Test.YtcmmdaginkhomaaChecked
import GoSem.Claim
import GoSem.ClaimJoined
import GoSem.ClaimMapViews
import Derived.JoinedTies
import Derived.KernelRfl
namespace Go.Proofs.Ytcmmdaginkhomaa
/- THE CELL 'sum', in the pinned program and in every row, IS THE sha256 OF THE DUMP (.gsa) THAT YtcmmdaginkhomaaProg.lean LOADS. Nothing in Lean hashes anything: it is a label: what it is worth is what the hold of that sum in a sandbox is worth. -/
noncomputable def Try.pinned : Pinned := { name := "ytcmmdaginkhomaa", sum := "c58c955a3bf3e51bc5333ae5e90cfed5fd08b981d3e53e317b41efd54c4556c7", checked := Try.checked }
namespace Rows
def none {H : Type} : Left H := { results := [], args := [] }

/-- 'tidewaylaw12.ArenaPacks': WHATEVER THE INPUT: true; the input reads as it did. -/
def arenaPacksSpec : ChangeSpec := { name := "arenaPacks", fn := fun _ => fun
  | [d1, d2] => { results := [.lit (.bool true)], args := [d1, d2] }
  | _ => none }
def arenaPacksRow : OpenClaim := { program := "ytcmmdaginkhomaa", sum := "c58c955a3bf3e51bc5333ae5e90cfed5fd08b981d3e53e317b41efd54c4556c7", func := "tideway/tidewaylaw12.ArenaPacks", spec := "arenaPacks", unfollowed := true, recurses := true, apart := false }
def ArenaPacksSaid : Prop := arenaPacksRow.holds Try.pinned (OpenSpec.ofChange arenaPacksSpec)

/-- ITS FALSE NEIGHBOUR: 'it returns false'. Refute it at one input. -/
def arenaPacksWrong : ChangeSpec := { name := "arenaPacks", fn := fun _ => fun
  | [d1, d2] => { results := [.lit (.bool false)], args := [d1, d2] }
  | _ => none }
def ArenaPacksWrongFalsely : Prop := arenaPacksRow.holds Try.pinned (OpenSpec.ofChange arenaPacksWrong)

/-- 'tidewaylaw12.ArenaKeeps': WHATEVER THE INPUT: true; the input reads as it did. -/
def arenaKeepsSpec : ChangeSpec := { name := "arenaKeeps", fn := fun _ => fun
  | [d1, d2] => { results := [.lit (.bool true)], args := [d1, d2] }
  | _ => none }
def arenaKeepsRow : OpenClaim := { program := "ytcmmdaginkhomaa", sum := "c58c955a3bf3e51bc5333ae5e90cfed5fd08b981d3e53e317b41efd54c4556c7", func := "tideway/tidewaylaw12.ArenaKeeps", spec := "arenaKeeps", unfollowed := true, recurses := true, apart := false }
def ArenaKeepsSaid : Prop := arenaKeepsRow.holds Try.pinned (OpenSpec.ofChange arenaKeepsSpec)

/-- ITS FALSE NEIGHBOUR: 'it returns false'. Refute it at one input. -/
def arenaKeepsWrong : ChangeSpec := { name := "arenaKeeps", fn := fun _ => fun
  | [d1, d2] => { results := [.lit (.bool false)], args := [d1, d2] }
  | _ => none }
def ArenaKeepsWrongFalsely : Prop := arenaKeepsRow.holds Try.pinned (OpenSpec.ofChange arenaKeepsWrong)

/-- 'tidewaylaw12.ArenaNews': WHATEVER THE INPUT: true; the input reads as it did. -/
def arenaNewsSpec : ChangeSpec := { name := "arenaNews", fn := fun _ => fun
  | [d] => { results := [.lit (.bool true)], args := [d] }
  | _ => none }
def arenaNewsRow : OpenClaim := { program := "ytcmmdaginkhomaa", sum := "c58c955a3bf3e51bc5333ae5e90cfed5fd08b981d3e53e317b41efd54c4556c7", func := "tideway/tidewaylaw12.ArenaNews", spec := "arenaNews", unfollowed := true, recurses := true, apart := false }
def ArenaNewsSaid : Prop := arenaNewsRow.holds Try.pinned (OpenSpec.ofChange arenaNewsSpec)

/-- ITS FALSE NEIGHBOUR: 'it returns false'. Refute it at one input. -/
def arenaNewsWrong : ChangeSpec := { name := "arenaNews", fn := fun _ => fun
  | [d] => { results := [.lit (.bool false)], args := [d] }
  | _ => none }
def ArenaNewsWrongFalsely : Prop := arenaNewsRow.holds Try.pinned (OpenSpec.ofChange arenaNewsWrong)

/-- 'tidewaylaw12.ArenaSets': WHATEVER THE INPUT: true; the input reads as it did. -/
def arenaSetsSpec : ChangeSpec := { name := "arenaSets", fn := fun _ => fun
  | [d1, d2, d3, d4, d5] => { results := [.lit (.bool true)], args := [d1, d2, d3, d4, d5] }
  | _ => none }
def arenaSetsRow : OpenClaim := { program := "ytcmmdaginkhomaa", sum := "c58c955a3bf3e51bc5333ae5e90cfed5fd08b981d3e53e317b41efd54c4556c7", func := "tideway/tidewaylaw12.ArenaSets", spec := "arenaSets", unfollowed := true, recurses := true, apart := false }
def ArenaSetsSaid : Prop := arenaSetsRow.holds Try.pinned (OpenSpec.ofChange arenaSetsSpec)

/-- ITS FALSE NEIGHBOUR: 'it returns false'. Refute it at one input. -/
def arenaSetsWrong : ChangeSpec := { name := "arenaSets", fn := fun _ => fun
  | [d1, d2, d3, d4, d5] => { results := [.lit (.bool false)], args := [d1, d2, d3, d4, d5] }
  | _ => none }
def ArenaSetsWrongFalsely : Prop := arenaSetsRow.holds Try.pinned (OpenSpec.ofChange arenaSetsWrong)

/-- 'tidewaylaw12.ArenaBreaks': WHATEVER THE INPUT: true; the input reads as it did. -/
def arenaBreaksSpec : ChangeSpec := { name := "arenaBreaks", fn := fun _ => fun
  | [d1, d2, d3, d4, d5] => { results := [.lit (.bool true)], args := [d1, d2, d3, d4, d5] }
  | _ => none }
def arenaBreaksRow : OpenClaim := { program := "ytcmmdaginkhomaa", sum := "c58c955a3bf3e51bc5333ae5e90cfed5fd08b981d3e53e317b41efd54c4556c7", func := "tideway/tidewaylaw12.ArenaBreaks", spec := "arenaBreaks", unfollowed := true, recurses := true, apart := false }
def ArenaBreaksSaid : Prop := arenaBreaksRow.holds Try.pinned (OpenSpec.ofChange arenaBreaksSpec)

/-- ITS FALSE NEIGHBOUR: 'it returns false'. Refute it at one input. -/
def arenaBreaksWrong : ChangeSpec := { name := "arenaBreaks", fn := fun _ => fun
  | [d1, d2, d3, d4, d5] => { results := [.lit (.bool false)], args := [d1, d2, d3, d4, d5] }
  | _ => none }
def ArenaBreaksWrongFalsely : Prop := arenaBreaksRow.holds Try.pinned (OpenSpec.ofChange arenaBreaksWrong)

/-- 'tidewaylaw12.ArenaMoves': WHATEVER THE INPUT: true; the input reads as it did. -/
def arenaMovesSpec : ChangeSpec := { name := "arenaMoves", fn := fun _ => fun
  | [d1, d2, d3, d4] => { results := [.lit (.bool true)], args := [d1, d2, d3, d4] }
  | _ => none }
def arenaMovesRow : OpenClaim := { program := "ytcmmdaginkhomaa", sum := "c58c955a3bf3e51bc5333ae5e90cfed5fd08b981d3e53e317b41efd54c4556c7", func := "tideway/tidewaylaw12.ArenaMoves", spec := "arenaMoves", unfollowed := true, recurses := true, apart := false }
def ArenaMovesSaid : Prop := arenaMovesRow.holds Try.pinned (OpenSpec.ofChange arenaMovesSpec)

/-- ITS FALSE NEIGHBOUR: 'it returns false'. Refute it at one input. -/
def arenaMovesWrong : ChangeSpec := { name := "arenaMoves", fn := fun _ => fun
  | [d1, d2, d3, d4] => { results := [.lit (.bool false)], args := [d1, d2, d3, d4] }
  | _ => none }
def ArenaMovesWrongFalsely : Prop := arenaMovesRow.holds Try.pinned (OpenSpec.ofChange arenaMovesWrong)

/-- 'tidewaylaw12.ArenaPlays': WHATEVER THE INPUT: true; the input reads as it did. -/
def arenaPlaysSpec : ChangeSpec := { name := "arenaPlays", fn := fun _ => fun
  | [d1, d2] => { results := [.lit (.bool true)], args := [d1, d2] }
  | _ => none }
def arenaPlaysRow : OpenClaim := { program := "ytcmmdaginkhomaa", sum := "c58c955a3bf3e51bc5333ae5e90cfed5fd08b981d3e53e317b41efd54c4556c7", func := "tideway/tidewaylaw12.ArenaPlays", spec := "arenaPlays", unfollowed := true, recurses := true, apart := false }
def ArenaPlaysSaid : Prop := arenaPlaysRow.holds Try.pinned (OpenSpec.ofChange arenaPlaysSpec)

/-- ITS FALSE NEIGHBOUR: 'it returns false'. Refute it at one input. -/
def arenaPlaysWrong : ChangeSpec := { name := "arenaPlays", fn := fun _ => fun
  | [d1, d2] => { results := [.lit (.bool false)], args := [d1, d2] }
  | _ => none }
def ArenaPlaysWrongFalsely : Prop := arenaPlaysRow.holds Try.pinned (OpenSpec.ofChange arenaPlaysWrong)

/-- 'tidewaylaw12.ArenaWalks': WHATEVER THE INPUT: true; the input reads as it did. -/
def arenaWalksSpec : ChangeSpec := { name := "arenaWalks", fn := fun _ => fun
  | [d1, d2, d3, d4] => { results := [.lit (.bool true)], args := [d1, d2, d3, d4] }
  | _ => none }
def arenaWalksRow : OpenClaim := { program := "ytcmmdaginkhomaa", sum := "c58c955a3bf3e51bc5333ae5e90cfed5fd08b981d3e53e317b41efd54c4556c7", func := "tideway/tidewaylaw12.ArenaWalks", spec := "arenaWalks", unfollowed := true, recurses := true, apart := false }
def ArenaWalksSaid : Prop := arenaWalksRow.holds Try.pinned (OpenSpec.ofChange arenaWalksSpec)

/-- ITS FALSE NEIGHBOUR: 'it returns false'. Refute it at one input. -/
def arenaWalksWrong : ChangeSpec := { name := "arenaWalks", fn := fun _ => fun
  | [d1, d2, d3, d4] => { results := [.lit (.bool false)], args := [d1, d2, d3, d4] }
  | _ => none }
def ArenaWalksWrongFalsely : Prop := arenaWalksRow.holds Try.pinned (OpenSpec.ofChange arenaWalksWrong)

/- THE SECOND FORM. 'bulk': how many values and letters a reading holds, each counted each time it is reached (what is shared counts as often as it is met; a slice's spare places count too). A statement '..UptoSaid' is the law's where the arguments, and the package variables that the reading takes, are together of bulk at most 1048576: NARROWER than '..Said'. Prove '..Said' where nothing that the law and all that it calls make is longer than what came in: it says more and counts as full. Else prove '..UptoSaid'. A law counts once. -/
mutual
def uptoBulk {H : Type} : DataW H → Nat
  | .lit (.string bytes) => bytes.length + 1
  | .lit _ => 1
  | .nil => 1
  | .ptr d => uptoBulk d + 1
  | .slice elems spare => uptoBulkAll elems + uptoBulkAll spare + 1
  | .agg parts => uptoBulkAll parts + 1
  | .iface _ d => uptoBulk d + 1
  | .map entries => uptoBulkEntries entries + 1
  | .held _ => 1
def uptoBulkAll {H : Type} : List (DataW H) → Nat
  | [] => 0
  | d :: r => uptoBulk d + uptoBulkAll r
def uptoBulkEntries {H : Type} : List (Lit × DataW H) → Nat
  | [] => 0
  | x :: r => uptoBulkEntry x + uptoBulkEntries r
def uptoBulkEntry {H : Type} : Lit × DataW H → Nat
  | (.string bytes, d) => bytes.length + uptoBulk d + 1
  | (_, d) => uptoBulk d + 1
 end
def uptoSmall : (H : Type) → List (DataW H) → Bool := fun _ ds => decide (uptoBulkAll ds ≤ 1048576)
def OpenSpec.upto (s : _root_.Go.ChangeSpec) : _root_.Go.OpenSpec := { _root_.Go.OpenSpec.ofChange s with cond := some uptoSmall }

/-- 'tidewaylaw12.ArenaPacks', WHERE WHAT IT READS IS OF BULK AT MOST 1048576: true; the input reads as it did. -/
def arenaPacksUptoRow : OpenClaim := { program := "ytcmmdaginkhomaa", sum := "c58c955a3bf3e51bc5333ae5e90cfed5fd08b981d3e53e317b41efd54c4556c7", func := "tideway/tidewaylaw12.ArenaPacks", spec := "arenaPacks", unfollowed := true, recurses := true, apart := false, narrowed := true }
def ArenaPacksUptoSaid : Prop := arenaPacksUptoRow.holds Try.pinned (OpenSpec.upto arenaPacksSpec)

/-- 'tidewaylaw12.ArenaKeeps', WHERE WHAT IT READS IS OF BULK AT MOST 1048576: true; the input reads as it did. -/
def arenaKeepsUptoRow : OpenClaim := { program := "ytcmmdaginkhomaa", sum := "c58c955a3bf3e51bc5333ae5e90cfed5fd08b981d3e53e317b41efd54c4556c7", func := "tideway/tidewaylaw12.ArenaKeeps", spec := "arenaKeeps", unfollowed := true, recurses := true, apart := false, narrowed := true }
def ArenaKeepsUptoSaid : Prop := arenaKeepsUptoRow.holds Try.pinned (OpenSpec.upto arenaKeepsSpec)

/-- 'tidewaylaw12.ArenaNews', WHERE WHAT IT READS IS OF BULK AT MOST 1048576: true; the input reads as it did. -/
def arenaNewsUptoRow : OpenClaim := { program := "ytcmmdaginkhomaa", sum := "c58c955a3bf3e51bc5333ae5e90cfed5fd08b981d3e53e317b41efd54c4556c7", func := "tideway/tidewaylaw12.ArenaNews", spec := "arenaNews", unfollowed := true, recurses := true, apart := false, narrowed := true }
def ArenaNewsUptoSaid : Prop := arenaNewsUptoRow.holds Try.pinned (OpenSpec.upto arenaNewsSpec)

/-- 'tidewaylaw12.ArenaSets', WHERE WHAT IT READS IS OF BULK AT MOST 1048576: true; the input reads as it did. -/
def arenaSetsUptoRow : OpenClaim := { program := "ytcmmdaginkhomaa", sum := "c58c955a3bf3e51bc5333ae5e90cfed5fd08b981d3e53e317b41efd54c4556c7", func := "tideway/tidewaylaw12.ArenaSets", spec := "arenaSets", unfollowed := true, recurses := true, apart := false, narrowed := true }
def ArenaSetsUptoSaid : Prop := arenaSetsUptoRow.holds Try.pinned (OpenSpec.upto arenaSetsSpec)

/-- 'tidewaylaw12.ArenaBreaks', WHERE WHAT IT READS IS OF BULK AT MOST 1048576: true; the input reads as it did. -/
def arenaBreaksUptoRow : OpenClaim := { program := "ytcmmdaginkhomaa", sum := "c58c955a3bf3e51bc5333ae5e90cfed5fd08b981d3e53e317b41efd54c4556c7", func := "tideway/tidewaylaw12.ArenaBreaks", spec := "arenaBreaks", unfollowed := true, recurses := true, apart := false, narrowed := true }
def ArenaBreaksUptoSaid : Prop := arenaBreaksUptoRow.holds Try.pinned (OpenSpec.upto arenaBreaksSpec)

/-- 'tidewaylaw12.ArenaMoves', WHERE WHAT IT READS IS OF BULK AT MOST 1048576: true; the input reads as it did. -/
def arenaMovesUptoRow : OpenClaim := { program := "ytcmmdaginkhomaa", sum := "c58c955a3bf3e51bc5333ae5e90cfed5fd08b981d3e53e317b41efd54c4556c7", func := "tideway/tidewaylaw12.ArenaMoves", spec := "arenaMoves", unfollowed := true, recurses := true, apart := false, narrowed := true }
def ArenaMovesUptoSaid : Prop := arenaMovesUptoRow.holds Try.pinned (OpenSpec.upto arenaMovesSpec)

/-- 'tidewaylaw12.ArenaPlays', WHERE WHAT IT READS IS OF BULK AT MOST 1048576: true; the input reads as it did. -/
def arenaPlaysUptoRow : OpenClaim := { program := "ytcmmdaginkhomaa", sum := "c58c955a3bf3e51bc5333ae5e90cfed5fd08b981d3e53e317b41efd54c4556c7", func := "tideway/tidewaylaw12.ArenaPlays", spec := "arenaPlays", unfollowed := true, recurses := true, apart := false, narrowed := true }
def ArenaPlaysUptoSaid : Prop := arenaPlaysUptoRow.holds Try.pinned (OpenSpec.upto arenaPlaysSpec)

/-- 'tidewaylaw12.ArenaWalks', WHERE WHAT IT READS IS OF BULK AT MOST 1048576: true; the input reads as it did. -/
def arenaWalksUptoRow : OpenClaim := { program := "ytcmmdaginkhomaa", sum := "c58c955a3bf3e51bc5333ae5e90cfed5fd08b981d3e53e317b41efd54c4556c7", func := "tideway/tidewaylaw12.ArenaWalks", spec := "arenaWalks", unfollowed := true, recurses := true, apart := false, narrowed := true }
def ArenaWalksUptoSaid : Prop := arenaWalksUptoRow.holds Try.pinned (OpenSpec.upto arenaWalksSpec)

end Rows
end Go.Proofs.Ytcmmdaginkhomaa
