/-
  No cell of these rows narrows 'for every input' (looked for: loops, veiled, ifaces, maps, wideKeys, modest, calm, conditions, laid).
  DERIVED. THE GIVEN ROWS OF THIS SEAT. 8 by the template 'for every input the law returns true; each argument reads behind the call as it read before'; 0 by the template 'total and deterministic' (their statements: YtiljdcopkgmcbaaTotals.lean).
  GIVEN WITH THE SEED: the statements are not yours to turn. If you find one false, say at which input.
  Laid BY PROGRAM, IN A SANDBOX (cutbox-rows.mjs): the forced cells as the released guide's own fill.sh prints them over the translation f1ba6c982f8d7e75… (all of the seat's roots in one cut). By AI agents, Wed Nov 11 2026. No macro, syntax, notation, axiom, sorry.
-/
import Derived.Test.YtiljdcopkgmcbaaChecked
import GoSem.Claim
import GoSem.ClaimJoined
import GoSem.ClaimMapViews
import Derived.JoinedTies
import Derived.KernelRfl
namespace Go.Proofs.Ytiljdcopkgmcbaa
/- THE CELL 'sum', in the pinned program and in every row, IS THE sha256 OF THE DUMP (.gsa) THAT YtiljdcopkgmcbaaProg.lean LOADS. Nothing in Lean hashes anything: it is a label: what it is worth is what the hold of that sum in a sandbox is worth. -/
noncomputable def Try.pinned : Pinned := { name := "ytiljdcopkgmcbaa", sum := "f1ba6c982f8d7e75b473ddf594541c42f2aac884636d462a7d6bf3537e4e7b30", checked := Try.checked }
namespace Rows
def none {H : Type} : Left H := { results := [], args := [] }

/-- 'tidewaylaw03.TypesRight': WHATEVER THE INPUT: true; the input reads as it did. -/
def typesRightSpec : ChangeSpec := { name := "typesRight", fn := fun _ => fun
  | [d] => { results := [.lit (.bool true)], args := [d] }
  | _ => none }
def typesRightRow : OpenClaim := { program := "ytiljdcopkgmcbaa", sum := "f1ba6c982f8d7e75b473ddf594541c42f2aac884636d462a7d6bf3537e4e7b30", func := "tideway/tidewaylaw03.TypesRight", spec := "typesRight", unfollowed := true, recurses := true, apart := false }
def TypesRightSaid : Prop := typesRightRow.holds Try.pinned (OpenSpec.ofChange typesRightSpec)

/-- ITS FALSE NEIGHBOUR: 'it returns false'. Refute it at one input. -/
def typesRightWrong : ChangeSpec := { name := "typesRight", fn := fun _ => fun
  | [d] => { results := [.lit (.bool false)], args := [d] }
  | _ => none }
def TypesRightWrongFalsely : Prop := typesRightRow.holds Try.pinned (OpenSpec.ofChange typesRightWrong)

/-- 'tidewaylaw03.TypesAlike': WHATEVER THE INPUT: true; the input reads as it did. -/
def typesAlikeSpec : ChangeSpec := { name := "typesAlike", fn := fun _ => fun
  | [d1, d2] => { results := [.lit (.bool true)], args := [d1, d2] }
  | _ => none }
def typesAlikeRow : OpenClaim := { program := "ytiljdcopkgmcbaa", sum := "f1ba6c982f8d7e75b473ddf594541c42f2aac884636d462a7d6bf3537e4e7b30", func := "tideway/tidewaylaw03.TypesAlike", spec := "typesAlike", unfollowed := true, recurses := true, apart := false }
def TypesAlikeSaid : Prop := typesAlikeRow.holds Try.pinned (OpenSpec.ofChange typesAlikeSpec)

/-- ITS FALSE NEIGHBOUR: 'it returns false'. Refute it at one input. -/
def typesAlikeWrong : ChangeSpec := { name := "typesAlike", fn := fun _ => fun
  | [d1, d2] => { results := [.lit (.bool false)], args := [d1, d2] }
  | _ => none }
def TypesAlikeWrongFalsely : Prop := typesAlikeRow.holds Try.pinned (OpenSpec.ofChange typesAlikeWrong)

/-- 'tidewaylaw03.TypesCopied': WHATEVER THE INPUT: true; the input reads as it did. -/
def typesCopiedSpec : ChangeSpec := { name := "typesCopied", fn := fun _ => fun
  | [d] => { results := [.lit (.bool true)], args := [d] }
  | _ => none }
def typesCopiedRow : OpenClaim := { program := "ytiljdcopkgmcbaa", sum := "f1ba6c982f8d7e75b473ddf594541c42f2aac884636d462a7d6bf3537e4e7b30", func := "tideway/tidewaylaw03.TypesCopied", spec := "typesCopied", unfollowed := true, recurses := true, apart := false }
def TypesCopiedSaid : Prop := typesCopiedRow.holds Try.pinned (OpenSpec.ofChange typesCopiedSpec)

/-- ITS FALSE NEIGHBOUR: 'it returns false'. Refute it at one input. -/
def typesCopiedWrong : ChangeSpec := { name := "typesCopied", fn := fun _ => fun
  | [d] => { results := [.lit (.bool false)], args := [d] }
  | _ => none }
def TypesCopiedWrongFalsely : Prop := typesCopiedRow.holds Try.pinned (OpenSpec.ofChange typesCopiedWrong)

/-- 'tidewaylaw03.TypesTable': WHATEVER THE INPUT: true; the input reads as it did. -/
def typesTableSpec : ChangeSpec := { name := "typesTable", fn := fun _ => fun
  | [d1, d2] => { results := [.lit (.bool true)], args := [d1, d2] }
  | _ => none }
def typesTableRow : OpenClaim := { program := "ytiljdcopkgmcbaa", sum := "f1ba6c982f8d7e75b473ddf594541c42f2aac884636d462a7d6bf3537e4e7b30", func := "tideway/tidewaylaw03.TypesTable", spec := "typesTable", unfollowed := true, recurses := true, apart := false }
def TypesTableSaid : Prop := typesTableRow.holds Try.pinned (OpenSpec.ofChange typesTableSpec)

/-- ITS FALSE NEIGHBOUR: 'it returns false'. Refute it at one input. -/
def typesTableWrong : ChangeSpec := { name := "typesTable", fn := fun _ => fun
  | [d1, d2] => { results := [.lit (.bool false)], args := [d1, d2] }
  | _ => none }
def TypesTableWrongFalsely : Prop := typesTableRow.holds Try.pinned (OpenSpec.ofChange typesTableWrong)

/-- 'tidewaylaw03.TypesClasses': WHATEVER THE INPUT: true; the input reads as it did. -/
def typesClassesSpec : ChangeSpec := { name := "typesClasses", fn := fun _ => fun
  | [d] => { results := [.lit (.bool true)], args := [d] }
  | _ => none }
def typesClassesRow : OpenClaim := { program := "ytiljdcopkgmcbaa", sum := "f1ba6c982f8d7e75b473ddf594541c42f2aac884636d462a7d6bf3537e4e7b30", func := "tideway/tidewaylaw03.TypesClasses", spec := "typesClasses", unfollowed := true, recurses := true, apart := false }
def TypesClassesSaid : Prop := typesClassesRow.holds Try.pinned (OpenSpec.ofChange typesClassesSpec)

/-- ITS FALSE NEIGHBOUR: 'it returns false'. Refute it at one input. -/
def typesClassesWrong : ChangeSpec := { name := "typesClasses", fn := fun _ => fun
  | [d] => { results := [.lit (.bool false)], args := [d] }
  | _ => none }
def TypesClassesWrongFalsely : Prop := typesClassesRow.holds Try.pinned (OpenSpec.ofChange typesClassesWrong)

/-- 'tidewaylaw03.TypesHeaders': WHATEVER THE INPUT: true; the input reads as it did. -/
def typesHeadersSpec : ChangeSpec := { name := "typesHeaders", fn := fun _ => fun
  | [d1, d2] => { results := [.lit (.bool true)], args := [d1, d2] }
  | _ => none }
def typesHeadersRow : OpenClaim := { program := "ytiljdcopkgmcbaa", sum := "f1ba6c982f8d7e75b473ddf594541c42f2aac884636d462a7d6bf3537e4e7b30", func := "tideway/tidewaylaw03.TypesHeaders", spec := "typesHeaders", unfollowed := true, recurses := true, apart := false }
def TypesHeadersSaid : Prop := typesHeadersRow.holds Try.pinned (OpenSpec.ofChange typesHeadersSpec)

/-- ITS FALSE NEIGHBOUR: 'it returns false'. Refute it at one input. -/
def typesHeadersWrong : ChangeSpec := { name := "typesHeaders", fn := fun _ => fun
  | [d1, d2] => { results := [.lit (.bool false)], args := [d1, d2] }
  | _ => none }
def TypesHeadersWrongFalsely : Prop := typesHeadersRow.holds Try.pinned (OpenSpec.ofChange typesHeadersWrong)

/-- 'tidewaylaw03.TypesMore': WHATEVER THE INPUT: true; the input reads as it did. -/
def typesMoreSpec : ChangeSpec := { name := "typesMore", fn := fun _ => fun
  | [d1, d2] => { results := [.lit (.bool true)], args := [d1, d2] }
  | _ => none }
def typesMoreRow : OpenClaim := { program := "ytiljdcopkgmcbaa", sum := "f1ba6c982f8d7e75b473ddf594541c42f2aac884636d462a7d6bf3537e4e7b30", func := "tideway/tidewaylaw03.TypesMore", spec := "typesMore", unfollowed := true, recurses := true, apart := false }
def TypesMoreSaid : Prop := typesMoreRow.holds Try.pinned (OpenSpec.ofChange typesMoreSpec)

/-- ITS FALSE NEIGHBOUR: 'it returns false'. Refute it at one input. -/
def typesMoreWrong : ChangeSpec := { name := "typesMore", fn := fun _ => fun
  | [d1, d2] => { results := [.lit (.bool false)], args := [d1, d2] }
  | _ => none }
def TypesMoreWrongFalsely : Prop := typesMoreRow.holds Try.pinned (OpenSpec.ofChange typesMoreWrong)

/-- 'tidewaylaw03.TypesRefs': WHATEVER THE INPUT: true; the input reads as it did. -/
def typesRefsSpec : ChangeSpec := { name := "typesRefs", fn := fun _ => fun
  | [d1, d2, d3] => { results := [.lit (.bool true)], args := [d1, d2, d3] }
  | _ => none }
def typesRefsRow : OpenClaim := { program := "ytiljdcopkgmcbaa", sum := "f1ba6c982f8d7e75b473ddf594541c42f2aac884636d462a7d6bf3537e4e7b30", func := "tideway/tidewaylaw03.TypesRefs", spec := "typesRefs", unfollowed := true, recurses := true, apart := false }
def TypesRefsSaid : Prop := typesRefsRow.holds Try.pinned (OpenSpec.ofChange typesRefsSpec)

/-- ITS FALSE NEIGHBOUR: 'it returns false'. Refute it at one input. -/
def typesRefsWrong : ChangeSpec := { name := "typesRefs", fn := fun _ => fun
  | [d1, d2, d3] => { results := [.lit (.bool false)], args := [d1, d2, d3] }
  | _ => none }
def TypesRefsWrongFalsely : Prop := typesRefsRow.holds Try.pinned (OpenSpec.ofChange typesRefsWrong)

/- THE SECOND FORM. 'bulk': how many values and letters a reading holds, each counted each time it is reached (what is shared counts as often as it is met; a slice's spare places count too). A statement '..UptoSaid' is the law's where the arguments, and the package variables that the reading takes, are together of bulk at most 1048576: NARROWER than '..Said'. Prove '..Said' where nothing that the law and all that it calls make is longer than what came in: it says more and counts as full. Else prove '..UptoSaid'. A law counts once. -/
mutual
def uptoBulk {H : Type} : DataW H → Nat
  | .lit (.string bytes) => bytes.length + 1
  | .lit _ => 1
  | .nil => 1
  | .ptr d => uptoBulk d + 1
  | .slice elems spare => uptoBulkAll elems + uptoBulkAll spare + 1
  | .agg parts => uptoBulkAll parts + 1
  | .iface _ d => uptoBulk d + 1
  | .map entries => uptoBulkEntries entries + 1
  | .held _ => 1
def uptoBulkAll {H : Type} : List (DataW H) → Nat
  | [] => 0
  | d :: r => uptoBulk d + uptoBulkAll r
def uptoBulkEntries {H : Type} : List (Lit × DataW H) → Nat
  | [] => 0
  | x :: r => uptoBulkEntry x + uptoBulkEntries r
def uptoBulkEntry {H : Type} : Lit × DataW H → Nat
  | (.string bytes, d) => bytes.length + uptoBulk d + 1
  | (_, d) => uptoBulk d + 1
 end
def uptoSmall : (H : Type) → List (DataW H) → Bool := fun _ ds => decide (uptoBulkAll ds ≤ 1048576)
def OpenSpec.upto (s : _root_.Go.ChangeSpec) : _root_.Go.OpenSpec := { _root_.Go.OpenSpec.ofChange s with cond := some uptoSmall }

/-- 'tidewaylaw03.TypesRight', WHERE WHAT IT READS IS OF BULK AT MOST 1048576: true; the input reads as it did. -/
def typesRightUptoRow : OpenClaim := { program := "ytiljdcopkgmcbaa", sum := "f1ba6c982f8d7e75b473ddf594541c42f2aac884636d462a7d6bf3537e4e7b30", func := "tideway/tidewaylaw03.TypesRight", spec := "typesRight", unfollowed := true, recurses := true, apart := false, narrowed := true }
def TypesRightUptoSaid : Prop := typesRightUptoRow.holds Try.pinned (OpenSpec.upto typesRightSpec)

/-- 'tidewaylaw03.TypesAlike', WHERE WHAT IT READS IS OF BULK AT MOST 1048576: true; the input reads as it did. -/
def typesAlikeUptoRow : OpenClaim := { program := "ytiljdcopkgmcbaa", sum := "f1ba6c982f8d7e75b473ddf594541c42f2aac884636d462a7d6bf3537e4e7b30", func := "tideway/tidewaylaw03.TypesAlike", spec := "typesAlike", unfollowed := true, recurses := true, apart := false, narrowed := true }
def TypesAlikeUptoSaid : Prop := typesAlikeUptoRow.holds Try.pinned (OpenSpec.upto typesAlikeSpec)

/-- 'tidewaylaw03.TypesCopied', WHERE WHAT IT READS IS OF BULK AT MOST 1048576: true; the input reads as it did. -/
def typesCopiedUptoRow : OpenClaim := { program := "ytiljdcopkgmcbaa", sum := "f1ba6c982f8d7e75b473ddf594541c42f2aac884636d462a7d6bf3537e4e7b30", func := "tideway/tidewaylaw03.TypesCopied", spec := "typesCopied", unfollowed := true, recurses := true, apart := false, narrowed := true }
def TypesCopiedUptoSaid : Prop := typesCopiedUptoRow.holds Try.pinned (OpenSpec.upto typesCopiedSpec)

/-- 'tidewaylaw03.TypesTable', WHERE WHAT IT READS IS OF BULK AT MOST 1048576: true; the input reads as it did. -/
def typesTableUptoRow : OpenClaim := { program := "ytiljdcopkgmcbaa", sum := "f1ba6c982f8d7e75b473ddf594541c42f2aac884636d462a7d6bf3537e4e7b30", func := "tideway/tidewaylaw03.TypesTable", spec := "typesTable", unfollowed := true, recurses := true, apart := false, narrowed := true }
def TypesTableUptoSaid : Prop := typesTableUptoRow.holds Try.pinned (OpenSpec.upto typesTableSpec)

/-- 'tidewaylaw03.TypesClasses', WHERE WHAT IT READS IS OF BULK AT MOST 1048576: true; the input reads as it did. -/
def typesClassesUptoRow : OpenClaim := { program := "ytiljdcopkgmcbaa", sum := "f1ba6c982f8d7e75b473ddf594541c42f2aac884636d462a7d6bf3537e4e7b30", func := "tideway/tidewaylaw03.TypesClasses", spec := "typesClasses", unfollowed := true, recurses := true, apart := false, narrowed := true }
def TypesClassesUptoSaid : Prop := typesClassesUptoRow.holds Try.pinned (OpenSpec.upto typesClassesSpec)

/-- 'tidewaylaw03.TypesHeaders', WHERE WHAT IT READS IS OF BULK AT MOST 1048576: true; the input reads as it did. -/
def typesHeadersUptoRow : OpenClaim := { program := "ytiljdcopkgmcbaa", sum := "f1ba6c982f8d7e75b473ddf594541c42f2aac884636d462a7d6bf3537e4e7b30", func := "tideway/tidewaylaw03.TypesHeaders", spec := "typesHeaders", unfollowed := true, recurses := true, apart := false, narrowed := true }
def TypesHeadersUptoSaid : Prop := typesHeadersUptoRow.holds Try.pinned (OpenSpec.upto typesHeadersSpec)

/-- 'tidewaylaw03.TypesMore', WHERE WHAT IT READS IS OF BULK AT MOST 1048576: true; the input reads as it did. -/
def typesMoreUptoRow : OpenClaim := { program := "ytiljdcopkgmcbaa", sum := "f1ba6c982f8d7e75b473ddf594541c42f2aac884636d462a7d6bf3537e4e7b30", func := "tideway/tidewaylaw03.TypesMore", spec := "typesMore", unfollowed := true, recurses := true, apart := false, narrowed := true }
def TypesMoreUptoSaid : Prop := typesMoreUptoRow.holds Try.pinned (OpenSpec.upto typesMoreSpec)

/-- 'tidewaylaw03.TypesRefs', WHERE WHAT IT READS IS OF BULK AT MOST 1048576: true; the input reads as it did. -/
def typesRefsUptoRow : OpenClaim := { program := "ytiljdcopkgmcbaa", sum := "f1ba6c982f8d7e75b473ddf594541c42f2aac884636d462a7d6bf3537e4e7b30", func := "tideway/tidewaylaw03.TypesRefs", spec := "typesRefs", unfollowed := true, recurses := true, apart := false, narrowed := true }
def TypesRefsUptoSaid : Prop := typesRefsUptoRow.holds Try.pinned (OpenSpec.upto typesRefsSpec)

end Rows
end Go.Proofs.Ytiljdcopkgmcbaa
