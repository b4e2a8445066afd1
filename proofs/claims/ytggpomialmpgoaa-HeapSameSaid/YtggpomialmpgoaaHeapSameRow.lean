/-
  HeapSame: its row, out of its walk. Printed by a program of mine (row.py).
-/
import Derived.Test.YtggpomialmpgoaaSm4
import Derived.Test.YtggpomialmpgoaaRow
namespace Go.Proofs.Ytggpomialmpgoaa.V
open Go Go.ChangeShapes Go.WideShapes Go.ChangeAt Go.RowKit
set_option linter.unusedVariables false
set_option linter.unusedSimpArgs false

abbrev heapsame_pars : List Par := [.one (.sl 40 (.cons (.int .u64) (.cons (.sl 8 (.cons (.int .i64) (.nil))) (.cons (.int .i64) (.nil))))), .one (.sl 8 (.cons (.int .i64) (.nil))), .one (.int .i64), .one (.bool)]
set_option maxRecDepth 100000 in
theorem heapsame_parsOk : parsOk Try.prog Try.f6.params.toList heapsame_pars := by
  rw [Try.params6]
  exact ⟨⟨by kernel_rfl, by kernel_rfl⟩, ⟨by kernel_rfl, by kernel_rfl⟩, ⟨by kernel_rfl, by kernel_rfl⟩, ⟨by kernel_rfl, by kernel_rfl⟩, trivial⟩
set_option maxRecDepth 100000 in
theorem heapsame_lifted (os : Os) (started : os.Started) (H : Type) (enc : TypeId × Value → H) :
    ReturnsInHanded {} Try.checked os 6 .any (Rows.heapSameSpec.pre6 enc Try.prog Try.f6 Rows.heapSameRow.domain false) (Rows.heapSameSpec.post enc Try.prog Try.f6 false true false false) := by
  refine lifted_of (tb := 4) started (by kernel_rfl) Try.func6
    (ChangeSpec.witness6 (enc := enc) (C := Try.checked) false ⟨#[], #[Value.slice none 0 0, Value.slice none 0 0, Value.int .i64 0, Value.bool false], []⟩ 8 (by kernel_rfl) (by kernel_rfl) (by kernel_rfl) (by kernel_rfl)) rfl (fun ds h => ?_) (by kernel_rfl) Try.underlying4 ?_ heapsame_parsOk ?_
  · rw [show Try.f6.params.size = 4 by kernel_rfl] at h
    match ds, h with
    | [_, _, _, _], _ => rfl
  · rw [Try.params6]
    intro t ht
    simp only [List.mem_cons, List.not_mem_nil, or_false] at ht
    rcases ht with rfl | rfl | rfl | rfl
    · exact ⟨by kernel_rfl, of_decide_eq_true (by kernel_rfl)⟩
    · exact ⟨by kernel_rfl, of_decide_eq_true (by kernel_rfl)⟩
    · exact ⟨by kernel_rfl, of_decide_eq_true (by kernel_rfl)⟩
    · exact ⟨by kernel_rfl, of_decide_eq_true (by kernel_rfl)⟩
  · rintro W args x h
    obtain ⟨v0, vs0, e0, h0, v1, vs1, e1, h1, v2, vs2, e2, h2, v3, vs3, e3, h3, e4⟩ := h
    subst e4
    subst e3
    subst e2
    subst e1
    obtain rfl : args = #[v0, v1, v2, v3] := by cases args; simp_all
    exact heapsame_walk W v0 v1 v2 v3 x.1 x.2.1 x.2.2.1 x.2.2.2.1 h0 h1 h2 h3
theorem heapsame_over : Rows.heapSameRow.holds Try.pinned (OpenSpec.ofChange Rows.heapSameSpec) :=
  OpenClaim.holds_of_wide 6 Try.f6 rfl rfl rfl rfl rfl rfl rfl ⟨rfl, rfl, rfl, rfl, rfl⟩ rfl rfl rfl rfl rfl (by kernel_rfl) Try.func6 (by kernel_rfl)
    (of_decide_eq_true (by kernel_rfl)) (by unfold Func.isWrapper; first | (rw [if_pos (by decide +kernel)]; kernel_rfl) | (rw [if_neg (by decide +kernel)]; exact ⟨rfl, rfl⟩))
    (fun os started H enc _ => heapsame_lifted os started H enc)

theorem heapsame_holds : Rows.HeapSameSaid := heapsame_over
#print axioms heapsame_holds
end Go.Proofs.Ytggpomialmpgoaa.V
