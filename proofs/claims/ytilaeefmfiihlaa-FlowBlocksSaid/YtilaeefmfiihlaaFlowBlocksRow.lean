/-
  FlowBlocks: its row, out of its walk. Printed by a program of mine (row.py).
-/
import Derived.Test.YtilaeefmfiihlaaFb
import Derived.Test.YtilaeefmfiihlaaRow
namespace Go.Proofs.Ytilaeefmfiihlaa.V
open Go Go.ChangeShapes Go.WideShapes Go.ChangeAt Go.RowKit
set_option linter.unusedVariables false
set_option linter.unusedSimpArgs false

abbrev flowblocks_pars : List Par := [.one (.sl 24 (.cons (.int .i64) (.cons (.int .i64) (.cons (.int .i64) (.nil)))))]
set_option maxRecDepth 100000 in
theorem flowblocks_parsOk : parsOk Try.prog Try.f5.params.toList flowblocks_pars := by
  rw [Try.params5]
  exact ⟨⟨by kernel_rfl, by kernel_rfl⟩, trivial⟩
set_option maxRecDepth 100000 in
theorem flowblocks_lifted (os : Os) (started : os.Started) (H : Type) (enc : TypeId × Value → H) :
    ReturnsInHanded {} Try.checked os 5 .any (Rows.flowBlocksSpec.pre6 enc Try.prog Try.f5 Rows.flowBlocksRow.domain false) (Rows.flowBlocksSpec.post enc Try.prog Try.f5 false true false false) := by
  refine lifted_of (tb := 4) started (by kernel_rfl) Try.func5
    (ChangeSpec.witness6 (enc := enc) (C := Try.checked) false ⟨#[], #[Value.slice none 0 0], []⟩ 8 (by kernel_rfl) (by kernel_rfl) (by kernel_rfl) (by kernel_rfl)) rfl (fun ds h => ?_) (by kernel_rfl) Try.underlying4 ?_ flowblocks_parsOk ?_
  · rw [show Try.f5.params.size = 1 by kernel_rfl] at h
    match ds, h with
    | [_], _ => rfl
  · rw [Try.params5]
    intro t ht
    simp only [List.mem_cons, List.not_mem_nil, or_false] at ht
    rcases ht with rfl
    · exact ⟨by kernel_rfl, of_decide_eq_true (by kernel_rfl)⟩
  · rintro W args x h
    obtain ⟨v0, vs0, e0, h0, e1⟩ := h
    subst e1
    obtain rfl : args = #[v0] := by cases args; simp_all
    exact flowblocks_walk W v0 x.1 h0
theorem flowblocks_over : Rows.flowBlocksRow.holds Try.pinned (OpenSpec.ofChange Rows.flowBlocksSpec) :=
  OpenClaim.holds_of_wide 5 Try.f5 rfl rfl rfl rfl rfl rfl rfl ⟨rfl, rfl, rfl, rfl, rfl⟩ rfl rfl rfl rfl rfl (by kernel_rfl) Try.func5 (by kernel_rfl)
    (of_decide_eq_true (by kernel_rfl)) (by unfold Func.isWrapper; first | (rw [if_pos (by decide +kernel)]; kernel_rfl) | (rw [if_neg (by decide +kernel)]; exact ⟨rfl, rfl⟩))
    (fun os started H enc _ => flowblocks_lifted os started H enc)

theorem flowblocks_holds : Rows.FlowBlocksSaid := flowblocks_over
#print axioms flowblocks_holds
end Go.Proofs.Ytilaeefmfiihlaa.V
