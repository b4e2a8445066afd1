/-
  HeapFits: its row, out of its walk. Printed by a program of mine (row.py).
-/
import Derived.Test.YtggpomialmpgoaaHs3
import Derived.Test.YtggpomialmpgoaaRow
namespace Go.Proofs.Ytggpomialmpgoaa.V
open Go Go.ChangeShapes Go.WideShapes Go.ChangeAt Go.RowKit
set_option linter.unusedVariables false
set_option linter.unusedSimpArgs false

abbrev heapfits_pars : List Par := [.one (.int .i64), .one (.int .i64), .one (.int .i64), .one (.int .i64), .one (.sl 8 (.cons (.int .i64) (.nil))), .one (.bool)]
set_option maxRecDepth 100000 in
theorem heapfits_parsOk : parsOk Try.prog Try.f5.params.toList heapfits_pars := by
  rw [Try.params5]
  exact ⟨⟨by kernel_rfl, by kernel_rfl⟩, ⟨by kernel_rfl, by kernel_rfl⟩, ⟨by kernel_rfl, by kernel_rfl⟩, ⟨by kernel_rfl, by kernel_rfl⟩, ⟨by kernel_rfl, by kernel_rfl⟩, ⟨by kernel_rfl, by kernel_rfl⟩, trivial⟩
set_option maxRecDepth 100000 in
theorem heapfits_lifted (os : Os) (started : os.Started) (H : Type) (enc : TypeId × Value → H) :
    ReturnsInHanded {} Try.checked os 5 .any (Rows.heapFitsSpec.pre6 enc Try.prog Try.f5 Rows.heapFitsRow.domain false) (Rows.heapFitsSpec.post enc Try.prog Try.f5 false true false false) := by
  refine lifted_of (tb := 4) started (by kernel_rfl) Try.func5
    (ChangeSpec.witness6 (enc := enc) (C := Try.checked) false ⟨#[], #[Value.int .i64 0, Value.int .i64 0, Value.int .i64 0, Value.int .i64 0, Value.slice none 0 0, Value.bool false], []⟩ 8 (by kernel_rfl) (by kernel_rfl) (by kernel_rfl) (by kernel_rfl)) rfl (fun ds h => ?_) (by kernel_rfl) Try.underlying4 ?_ heapfits_parsOk ?_
  · rw [show Try.f5.params.size = 6 by kernel_rfl] at h
    match ds, h with
    | [_, _, _, _, _, _], _ => rfl
  · rw [Try.params5]
    intro t ht
    simp only [List.mem_cons, List.not_mem_nil, or_false] at ht
    rcases ht with rfl | rfl | rfl | rfl | rfl | rfl
    · exact ⟨by kernel_rfl, of_decide_eq_true (by kernel_rfl)⟩
    · exact ⟨by kernel_rfl, of_decide_eq_true (by kernel_rfl)⟩
    · exact ⟨by kernel_rfl, of_decide_eq_true (by kernel_rfl)⟩
    · exact ⟨by kernel_rfl, of_decide_eq_true (by kernel_rfl)⟩
    · exact ⟨by kernel_rfl, of_decide_eq_true (by kernel_rfl)⟩
    · exact ⟨by kernel_rfl, of_decide_eq_true (by kernel_rfl)⟩
  · rintro W args x h
    obtain ⟨v0, vs0, e0, h0, v1, vs1, e1, h1, v2, vs2, e2, h2, v3, vs3, e3, h3, v4, vs4, e4, h4, v5, vs5, e5, h5, e6⟩ := h
    subst e6
    subst e5
    subst e4
    subst e3
    subst e2
    subst e1
    obtain rfl : args = #[v0, v1, v2, v3, v4, v5] := by cases args; simp_all
    exact heapfits_walk W v0 v1 v2 v3 v4 v5 x.1 x.2.1 x.2.2.1 x.2.2.2.1 x.2.2.2.2.1 x.2.2.2.2.2.1 h0 h1 h2 h3 h4 h5
theorem heapfits_over : Rows.heapFitsRow.holds Try.pinned (OpenSpec.ofChange Rows.heapFitsSpec) :=
  OpenClaim.holds_of_wide 5 Try.f5 rfl rfl rfl rfl rfl rfl rfl ⟨rfl, rfl, rfl, rfl, rfl⟩ rfl rfl rfl rfl rfl (by kernel_rfl) Try.func5 (by kernel_rfl)
    (of_decide_eq_true (by kernel_rfl)) (by unfold Func.isWrapper; first | (rw [if_pos (by decide +kernel)]; kernel_rfl) | (rw [if_neg (by decide +kernel)]; exact ⟨rfl, rfl⟩))
    (fun os started H enc _ => heapfits_lifted os started H enc)

theorem heapfits_holds : Rows.HeapFitsSaid := heapfits_over
#print axioms heapfits_holds
end Go.Proofs.Ytggpomialmpgoaa.V
