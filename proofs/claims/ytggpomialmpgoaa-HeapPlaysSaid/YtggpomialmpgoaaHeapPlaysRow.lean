/-
  HeapPlays: its row, out of its walk. Printed by a program of mine (row.py).
-/
import Derived.Test.YtggpomialmpgoaaPq5
import Derived.Test.YtggpomialmpgoaaRow
namespace Go.Proofs.Ytggpomialmpgoaa.V
open Go Go.ChangeShapes Go.WideShapes Go.ChangeAt Go.RowKit
set_option linter.unusedVariables false
set_option linter.unusedSimpArgs false

abbrev heapplays_pars : List Par := [.one (.int .i64), .one (.sl 8 (.cons (.int .i64) (.nil))), .one (.bool), .one (.sl 120 (.cons (.int .i64) (.cons (.int .i64) (.cons (.int .i64) (.cons (.int .i64) (.cons (.int .u64) (.cons (.sl 8 (.cons (.int .u64) (.nil))) (.cons (.sl 8 (.cons (.int .i64) (.nil))) (.cons (.int .i64) (.cons (.int .i64) (.cons (.int .u64) (.cons (.bool) (.nil)))))))))))))]
set_option maxRecDepth 100000 in
theorem heapplays_parsOk : parsOk Try.prog Try.f7.params.toList heapplays_pars := by
  rw [Try.params7]
  exact ⟨⟨by kernel_rfl, by kernel_rfl⟩, ⟨by kernel_rfl, by kernel_rfl⟩, ⟨by kernel_rfl, by kernel_rfl⟩, ⟨by kernel_rfl, by kernel_rfl⟩, trivial⟩
set_option maxRecDepth 100000 in
theorem heapplays_lifted (os : Os) (started : os.Started) (H : Type) (enc : TypeId × Value → H) :
    ReturnsInHanded {} Try.checked os 7 .any (Rows.heapPlaysSpec.pre6 enc Try.prog Try.f7 Rows.heapPlaysRow.domain false) (Rows.heapPlaysSpec.post enc Try.prog Try.f7 false true false false) := by
  refine lifted_of (tb := 4) started (by kernel_rfl) Try.func7
    (ChangeSpec.witness6 (enc := enc) (C := Try.checked) false ⟨#[], #[Value.int .i64 0, Value.slice none 0 0, Value.bool false, Value.slice none 0 0], []⟩ 8 (by kernel_rfl) (by kernel_rfl) (by kernel_rfl) (by kernel_rfl)) rfl (fun ds h => ?_) (by kernel_rfl) Try.underlying4 ?_ heapplays_parsOk ?_
  · rw [show Try.f7.params.size = 4 by kernel_rfl] at h
    match ds, h with
    | [_, _, _, _], _ => rfl
  · rw [Try.params7]
    intro t ht
    simp only [List.mem_cons, List.not_mem_nil, or_false] at ht
    rcases ht with rfl | rfl | rfl | rfl
    · exact ⟨by kernel_rfl, of_decide_eq_true (by kernel_rfl)⟩
    · exact ⟨by kernel_rfl, of_decide_eq_true (by kernel_rfl)⟩
    · exact ⟨by kernel_rfl, of_decide_eq_true (by kernel_rfl)⟩
    · exact ⟨by kernel_rfl, of_decide_eq_true (by kernel_rfl)⟩
  · rintro W args x h
    obtain ⟨v0, vs0, e0, h0, v1, vs1, e1, h1, v2, vs2, e2, h2, v3, vs3, e3, h3, e4⟩ := h
    subst e4
    subst e3
    subst e2
    subst e1
    obtain rfl : args = #[v0, v1, v2, v3] := by cases args; simp_all
    exact heapplays_walk W v0 v1 v2 v3 x.1 x.2.1 x.2.2.1 x.2.2.2.1 h0 h1 h2 h3
theorem heapplays_over : Rows.heapPlaysRow.holds Try.pinned (OpenSpec.ofChange Rows.heapPlaysSpec) :=
  OpenClaim.holds_of_wide 7 Try.f7 rfl rfl rfl rfl rfl rfl rfl ⟨rfl, rfl, rfl, rfl, rfl⟩ rfl rfl rfl rfl rfl (by kernel_rfl) Try.func7 (by kernel_rfl)
    (of_decide_eq_true (by kernel_rfl)) (by unfold Func.isWrapper; first | (rw [if_pos (by decide +kernel)]; kernel_rfl) | (rw [if_neg (by decide +kernel)]; exact ⟨rfl, rfl⟩))
    (fun os started H enc _ => heapplays_lifted os started H enc)

theorem heapplays_holds : Rows.HeapPlaysSaid := heapplays_over
#print axioms heapplays_holds
end Go.Proofs.Ytggpomialmpgoaa.V
