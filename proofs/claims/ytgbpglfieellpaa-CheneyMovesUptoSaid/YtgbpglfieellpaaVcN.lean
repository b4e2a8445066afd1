/-
  What has to be shown of functions, written out by program (the kernel holds each against the code).
-/
import Derived.Test.YtgbpglfieellpaaTab
namespace Go.Proofs.Ytgbpglfieellpaa.V
open Go Go.RowKit
set_option maxRecDepth 100000
set_option linter.unusedVariables false
set_option linter.unusedSimpArgs false

/-- cheney Collect -/
theorem vn_12 (a : Option Addr) (zero : Bool) (w : World) (R : Ending → World → Prop)
    (h : ∀ (w1 : World), NewW w (Obj.cells #[Value.pointer a] (nat_lit 25)) w1 → ∃ (p : Addr), some (Addr.mk w.heap.size (0 : Nat) none) = some p ∧ ∃ (a : Option Addr), w1.cell? p = some (Value.pointer a) ∧ gd a.isNone false (R (Ending.returned (Value.tuple #[Value.int IntKind.i64 (0 : Int), Value.int IntKind.i64 (1 : Int)])) w1) (R (Ending.returned (Value.tuple #[Value.int IntKind.i64 (0 : Int), Value.int IntKind.i64 (1 : Int)])) w1)) :
    Calls Try.prog 12 #[Value.pointer a, Value.nilFunc, Value.bool zero] w R :=
  calls_denC tab_ok [(7, [(11, .int .u64), (12, .bool)])] [] [(12, (on [0, 2, 1, 3, 4] Tr.nil))] [.tmp 6, .tmp 7] [Value.pointer a, Value.nilFunc, Value.bool zero, undef, undef, undef, undef, undef, undef, undef, undef, undef, undef, undef, undef, undef, undef, undef, undef, undef, undef, undef, undef, undef, undef, undef, undef, undef, undef, undef, undef, undef, undef, undef, undef, undef, undef, undef, undef, undef, undef, undef, undef, undef, undef, undef, undef, undef, undef, undef] 47 Try.func12 rfl (by kernel_rfl) rfl rfl rfl (Eq.mp (by kernel_rfl) h)
end Go.Proofs.Ytgbpglfieellpaa.V
