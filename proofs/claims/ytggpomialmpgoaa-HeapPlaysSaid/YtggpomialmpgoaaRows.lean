/-
  No cell of these rows narrows 'for every input' (looked for: loops, veiled, ifaces, maps, wideKeys, modest, calm, conditions, laid).
  DERIVED. THE GIVEN ROWS OF THIS SEAT. 5 by the template 'for every input the law returns true; each argument reads behind the call as it read before'; 0 by the template 'total and deterministic' (their statements: YtggpomialmpgoaaTotals.lean).
  GIVEN WITH THE SEED: the statements are not yours to turn. If you find one false, say at which input.
  Laid BY PROGRAM, IN A SANDBOX (cutbox-rows.mjs): the forced cells as the released guide's own fill.sh prints them over the translation 01ea1b6f3defb583… (all of the seat's roots in one cut). By AI agents, Wed Nov 11 2026. No macro, syntax, notation, axiom, sorry.
-/
import Derived.Test.YtggpomialmpgoaaChecked
import GoSem.Claim
import GoSem.ClaimJoined
import GoSem.ClaimMapViews
import Derived.JoinedTies
import Derived.KernelRfl
namespace Go.Proofs.Ytggpomialmpgoaa
/- THE CELL 'sum', in the pinned program and in every row, IS THE sha256 OF THE DUMP (.gsa) THAT YtggpomialmpgoaaProg.lean LOADS. Nothing in Lean hashes anything: it is a label: what it is worth is what the hold of that sum in a sandbox is worth. -/
noncomputable def Try.pinned : Pinned := { name := "ytggpomialmpgoaa", sum := "01ea1b6f3defb583b800cdf3e2342f1f6c7fcd7fbc3150d3a17c6a906a6e4239", checked := Try.checked }
namespace Rows
def none {H : Type} : Left H := { results := [], args := [] }

/-- 'tidewaylaw14.HeapForced': WHATEVER THE INPUT: true; the input reads as it did. -/
def heapForcedSpec : ChangeSpec := { name := "heapForced", fn := fun _ => fun
  | [d1, d2, d3, d4, d5] => { results := [.lit (.bool true)], args := [d1, d2, d3, d4, d5] }
  | _ => none }
def heapForcedRow : OpenClaim := { program := "ytggpomialmpgoaa", sum := "01ea1b6f3defb583b800cdf3e2342f1f6c7fcd7fbc3150d3a17c6a906a6e4239", func := "tideway/tidewaylaw14.HeapForced", spec := "heapForced", unfollowed := true, recurses := true, apart := false }
def HeapForcedSaid : Prop := heapForcedRow.holds Try.pinned (OpenSpec.ofChange heapForcedSpec)

/-- ITS FALSE NEIGHBOUR: 'it returns false'. Refute it at one input. -/
def heapForcedWrong : ChangeSpec := { name := "heapForced", fn := fun _ => fun
  | [d1, d2, d3, d4, d5] => { results := [.lit (.bool false)], args := [d1, d2, d3, d4, d5] }
  | _ => none }
def HeapForcedWrongFalsely : Prop := heapForcedRow.holds Try.pinned (OpenSpec.ofChange heapForcedWrong)

/-- 'tidewaylaw14.HeapNews': WHATEVER THE INPUT: true; the input reads as it did. -/
def heapNewsSpec : ChangeSpec := { name := "heapNews", fn := fun _ => fun
  | [d1, d2, d3] => { results := [.lit (.bool true)], args := [d1, d2, d3] }
  | _ => none }
def heapNewsRow : OpenClaim := { program := "ytggpomialmpgoaa", sum := "01ea1b6f3defb583b800cdf3e2342f1f6c7fcd7fbc3150d3a17c6a906a6e4239", func := "tideway/tidewaylaw14.HeapNews", spec := "heapNews", unfollowed := true, recurses := true, apart := false }
def HeapNewsSaid : Prop := heapNewsRow.holds Try.pinned (OpenSpec.ofChange heapNewsSpec)

/-- ITS FALSE NEIGHBOUR: 'it returns false'. Refute it at one input. -/
def heapNewsWrong : ChangeSpec := { name := "heapNews", fn := fun _ => fun
  | [d1, d2, d3] => { results := [.lit (.bool false)], args := [d1, d2, d3] }
  | _ => none }
def HeapNewsWrongFalsely : Prop := heapNewsRow.holds Try.pinned (OpenSpec.ofChange heapNewsWrong)

/-- 'tidewaylaw14.HeapFits': WHATEVER THE INPUT: true; the input reads as it did. -/
def heapFitsSpec : ChangeSpec := { name := "heapFits", fn := fun _ => fun
  | [d1, d2, d3, d4, d5, d6] => { results := [.lit (.bool true)], args := [d1, d2, d3, d4, d5, d6] }
  | _ => none }
def heapFitsRow : OpenClaim := { program := "ytggpomialmpgoaa", sum := "01ea1b6f3defb583b800cdf3e2342f1f6c7fcd7fbc3150d3a17c6a906a6e4239", func := "tideway/tidewaylaw14.HeapFits", spec := "heapFits", unfollowed := true, recurses := true, apart := false }
def HeapFitsSaid : Prop := heapFitsRow.holds Try.pinned (OpenSpec.ofChange heapFitsSpec)

/-- ITS FALSE NEIGHBOUR: 'it returns false'. Refute it at one input. -/
def heapFitsWrong : ChangeSpec := { name := "heapFits", fn := fun _ => fun
  | [d1, d2, d3, d4, d5, d6] => { results := [.lit (.bool false)], args := [d1, d2, d3, d4, d5, d6] }
  | _ => none }
def HeapFitsWrongFalsely : Prop := heapFitsRow.holds Try.pinned (OpenSpec.ofChange heapFitsWrong)

/-- 'tidewaylaw14.HeapSame': WHATEVER THE INPUT: true; the input reads as it did. -/
def heapSameSpec : ChangeSpec := { name := "heapSame", fn := fun _ => fun
  | [d1, d2, d3, d4] => { results := [.lit (.bool true)], args := [d1, d2, d3, d4] }
  | _ => none }
def heapSameRow : OpenClaim := { program := "ytggpomialmpgoaa", sum := "01ea1b6f3defb583b800cdf3e2342f1f6c7fcd7fbc3150d3a17c6a906a6e4239", func := "tideway/tidewaylaw14.HeapSame", spec := "heapSame", unfollowed := true, recurses := true, apart := false }
def HeapSameSaid : Prop := heapSameRow.holds Try.pinned (OpenSpec.ofChange heapSameSpec)

/-- ITS FALSE NEIGHBOUR: 'it returns false'. Refute it at one input. -/
def heapSameWrong : ChangeSpec := { name := "heapSame", fn := fun _ => fun
  | [d1, d2, d3, d4] => { results := [.lit (.bool false)], args := [d1, d2, d3, d4] }
  | _ => none }
def HeapSameWrongFalsely : Prop := heapSameRow.holds Try.pinned (OpenSpec.ofChange heapSameWrong)

/-- 'tidewaylaw14.HeapPlays': WHATEVER THE INPUT: true; the input reads as it did. -/
def heapPlaysSpec : ChangeSpec := { name := "heapPlays", fn := fun _ => fun
  | [d1, d2, d3, d4] => { results := [.lit (.bool true)], args := [d1, d2, d3, d4] }
  | _ => none }
def heapPlaysRow : OpenClaim := { program := "ytggpomialmpgoaa", sum := "01ea1b6f3defb583b800cdf3e2342f1f6c7fcd7fbc3150d3a17c6a906a6e4239", func := "tideway/tidewaylaw14.HeapPlays", spec := "heapPlays", unfollowed := true, recurses := true, apart := false }
def HeapPlaysSaid : Prop := heapPlaysRow.holds Try.pinned (OpenSpec.ofChange heapPlaysSpec)

/-- ITS FALSE NEIGHBOUR: 'it returns false'. Refute it at one input. -/
def heapPlaysWrong : ChangeSpec := { name := "heapPlays", fn := fun _ => fun
  | [d1, d2, d3, d4] => { results := [.lit (.bool false)], args := [d1, d2, d3, d4] }
  | _ => none }
def HeapPlaysWrongFalsely : Prop := heapPlaysRow.holds Try.pinned (OpenSpec.ofChange heapPlaysWrong)

/- THE SECOND FORM. 'bulk': how many values and letters a reading holds, each counted each time it is reached (what is shared counts as often as it is met; a slice's spare places count too). A statement '..UptoSaid' is the law's where the arguments, and the package variables that the reading takes, are together of bulk at most 1048576: NARROWER than '..Said'. Prove '..Said' where nothing that the law and all that it calls make is longer than what came in: it says more and counts as full. Else prove '..UptoSaid'. A law counts once. -/
mutual
def uptoBulk {H : Type} : DataW H → Nat
  | .lit (.string bytes) => bytes.length + 1
  | .lit _ => 1
  | .nil => 1
  | .ptr d => uptoBulk d + 1
  | .slice elems spare => uptoBulkAll elems + uptoBulkAll spare + 1
  | .agg parts => uptoBulkAll parts + 1
  | .iface _ d => uptoBulk d + 1
  | .map entries => uptoBulkEntries entries + 1
  | .held _ => 1
def uptoBulkAll {H : Type} : List (DataW H) → Nat
  | [] => 0
  | d :: r => uptoBulk d + uptoBulkAll r
def uptoBulkEntries {H : Type} : List (Lit × DataW H) → Nat
  | [] => 0
  | x :: r => uptoBulkEntry x + uptoBulkEntries r
def uptoBulkEntry {H : Type} : Lit × DataW H → Nat
  | (.string bytes, d) => bytes.length + uptoBulk d + 1
  | (_, d) => uptoBulk d + 1
 end
def uptoSmall : (H : Type) → List (DataW H) → Bool := fun _ ds => decide (uptoBulkAll ds ≤ 1048576)
def OpenSpec.upto (s : _root_.Go.ChangeSpec) : _root_.Go.OpenSpec := { _root_.Go.OpenSpec.ofChange s with cond := some uptoSmall }

/-- 'tidewaylaw14.HeapForced', WHERE WHAT IT READS IS OF BULK AT MOST 1048576: true; the input reads as it did. -/
def heapForcedUptoRow : OpenClaim := { program := "ytggpomialmpgoaa", sum := "01ea1b6f3defb583b800cdf3e2342f1f6c7fcd7fbc3150d3a17c6a906a6e4239", func := "tideway/tidewaylaw14.HeapForced", spec := "heapForced", unfollowed := true, recurses := true, apart := false, narrowed := true }
def HeapForcedUptoSaid : Prop := heapForcedUptoRow.holds Try.pinned (OpenSpec.upto heapForcedSpec)

/-- 'tidewaylaw14.HeapNews', WHERE WHAT IT READS IS OF BULK AT MOST 1048576: true; the input reads as it did. -/
def heapNewsUptoRow : OpenClaim := { program := "ytggpomialmpgoaa", sum := "01ea1b6f3defb583b800cdf3e2342f1f6c7fcd7fbc3150d3a17c6a906a6e4239", func := "tideway/tidewaylaw14.HeapNews", spec := "heapNews", unfollowed := true, recurses := true, apart := false, narrowed := true }
def HeapNewsUptoSaid : Prop := heapNewsUptoRow.holds Try.pinned (OpenSpec.upto heapNewsSpec)

/-- 'tidewaylaw14.HeapFits', WHERE WHAT IT READS IS OF BULK AT MOST 1048576: true; the input reads as it did. -/
def heapFitsUptoRow : OpenClaim := { program := "ytggpomialmpgoaa", sum := "01ea1b6f3defb583b800cdf3e2342f1f6c7fcd7fbc3150d3a17c6a906a6e4239", func := "tideway/tidewaylaw14.HeapFits", spec := "heapFits", unfollowed := true, recurses := true, apart := false, narrowed := true }
def HeapFitsUptoSaid : Prop := heapFitsUptoRow.holds Try.pinned (OpenSpec.upto heapFitsSpec)

/-- 'tidewaylaw14.HeapSame', WHERE WHAT IT READS IS OF BULK AT MOST 1048576: true; the input reads as it did. -/
def heapSameUptoRow : OpenClaim := { program := "ytggpomialmpgoaa", sum := "01ea1b6f3defb583b800cdf3e2342f1f6c7fcd7fbc3150d3a17c6a906a6e4239", func := "tideway/tidewaylaw14.HeapSame", spec := "heapSame", unfollowed := true, recurses := true, apart := false, narrowed := true }
def HeapSameUptoSaid : Prop := heapSameUptoRow.holds Try.pinned (OpenSpec.upto heapSameSpec)

/-- 'tidewaylaw14.HeapPlays', WHERE WHAT IT READS IS OF BULK AT MOST 1048576: true; the input reads as it did. -/
def heapPlaysUptoRow : OpenClaim := { program := "ytggpomialmpgoaa", sum := "01ea1b6f3defb583b800cdf3e2342f1f6c7fcd7fbc3150d3a17c6a906a6e4239", func := "tideway/tidewaylaw14.HeapPlays", spec := "heapPlays", unfollowed := true, recurses := true, apart := false, narrowed := true }
def HeapPlaysUptoSaid : Prop := heapPlaysUptoRow.holds Try.pinned (OpenSpec.upto heapPlaysSpec)

end Rows
end Go.Proofs.Ytggpomialmpgoaa
