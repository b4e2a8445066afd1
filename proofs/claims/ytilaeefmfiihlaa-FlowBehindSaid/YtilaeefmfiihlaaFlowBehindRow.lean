/-
  FlowBehind: its row, out of its walk. Printed by a program of mine (row.py).
-/
import Derived.Test.YtilaeefmfiihlaaFh
import Derived.Test.YtilaeefmfiihlaaRow
namespace Go.Proofs.Ytilaeefmfiihlaa.V
open Go Go.ChangeShapes Go.WideShapes Go.ChangeAt Go.RowKit
set_option linter.unusedVariables false
set_option linter.unusedSimpArgs false

abbrev flowbehind_pars : List Par := [.one (.sl 24 (.cons (.int .i64) (.cons (.int .i64) (.cons (.int .i64) (.nil))))), .one (.sl 24 (.cons (.int .i64) (.cons (.int .i64) (.cons (.int .i64) (.nil)))))]
set_option maxRecDepth 100000 in
theorem flowbehind_parsOk : parsOk Try.prog Try.f8.params.toList flowbehind_pars := by
  rw [Try.params8]
  exact ⟨⟨by kernel_rfl, by kernel_rfl⟩, ⟨by kernel_rfl, by kernel_rfl⟩, trivial⟩
set_option maxRecDepth 100000 in
theorem flowbehind_lifted (os : Os) (started : os.Started) (H : Type) (enc : TypeId × Value → H) :
    ReturnsInHanded {} Try.checked os 8 .any (Rows.flowBehindSpec.pre6 enc Try.prog Try.f8 Rows.flowBehindRow.domain false) (Rows.flowBehindSpec.post enc Try.prog Try.f8 false true false false) := by
  refine lifted_of (tb := 4) started (by kernel_rfl) Try.func8
    (ChangeSpec.witness6 (enc := enc) (C := Try.checked) false ⟨#[], #[Value.slice none 0 0, Value.slice none 0 0], []⟩ 8 (by kernel_rfl) (by kernel_rfl) (by kernel_rfl) (by kernel_rfl)) rfl (fun ds h => ?_) (by kernel_rfl) Try.underlying4 ?_ flowbehind_parsOk ?_
  · rw [show Try.f8.params.size = 2 by kernel_rfl] at h
    match ds, h with
    | [_, _], _ => rfl
  · rw [Try.params8]
    intro t ht
    simp only [List.mem_cons, List.not_mem_nil, or_false] at ht
    rcases ht with rfl | rfl
    · exact ⟨by kernel_rfl, of_decide_eq_true (by kernel_rfl)⟩
    · exact ⟨by kernel_rfl, of_decide_eq_true (by kernel_rfl)⟩
  · rintro W args x h
    obtain ⟨v0, vs0, e0, h0, v1, vs1, e1, h1, e2⟩ := h
    subst e2
    subst e1
    obtain rfl : args = #[v0, v1] := by cases args; simp_all
    exact flowbehind_walk W v0 v1 x.1 x.2.1 h0 h1
theorem flowbehind_over : Rows.flowBehindRow.holds Try.pinned (OpenSpec.ofChange Rows.flowBehindSpec) :=
  OpenClaim.holds_of_wide 8 Try.f8 rfl rfl rfl rfl rfl rfl rfl ⟨rfl, rfl, rfl, rfl, rfl⟩ rfl rfl rfl rfl rfl (by kernel_rfl) Try.func8 (by kernel_rfl)
    (of_decide_eq_true (by kernel_rfl)) (by unfold Func.isWrapper; first | (rw [if_pos (by decide +kernel)]; kernel_rfl) | (rw [if_neg (by decide +kernel)]; exact ⟨rfl, rfl⟩))
    (fun os started H enc _ => flowbehind_lifted os started H enc)

theorem flowbehind_holds : Rows.FlowBehindSaid := flowbehind_over
#print axioms flowbehind_holds
end Go.Proofs.Ytilaeefmfiihlaa.V
