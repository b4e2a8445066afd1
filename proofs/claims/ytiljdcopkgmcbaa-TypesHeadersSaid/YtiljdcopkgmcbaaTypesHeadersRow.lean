/-
  TypesHeaders: its row, out of its walk. Printed by a program of mine (row.py).
-/
import Derived.Test.YtiljdcopkgmcbaaLy9
import Derived.Test.YtiljdcopkgmcbaaRow
namespace Go.Proofs.Ytiljdcopkgmcbaa.V
open Go Go.ChangeShapes Go.WideShapes Go.ChangeAt Go.RowKit
set_option linter.unusedVariables false
set_option linter.unusedSimpArgs false

abbrev typesheaders_pars : List Par := [.one (.sl 40 (.cons (.int .i64) (.cons (.sl 8 (.cons (.int .i64) (.nil))) (.cons (.int .i64) (.nil))))), .one (.sl 40 (.cons (.int .i64) (.cons (.int .i64) (.cons (.sl 8 (.cons (.int .i64) (.nil))) (.nil)))))]
set_option maxRecDepth 100000 in
theorem typesheaders_parsOk : parsOk Try.prog Try.f8.params.toList typesheaders_pars := by
  rw [Try.params8]
  exact ⟨⟨by kernel_rfl, by kernel_rfl⟩, ⟨by kernel_rfl, by kernel_rfl⟩, trivial⟩
set_option maxRecDepth 100000 in
theorem typesheaders_lifted (os : Os) (started : os.Started) (H : Type) (enc : TypeId × Value → H) :
    ReturnsInHanded {} Try.checked os 8 .any (Rows.typesHeadersSpec.pre6 enc Try.prog Try.f8 Rows.typesHeadersRow.domain false) (Rows.typesHeadersSpec.post enc Try.prog Try.f8 false true false false) := by
  refine lifted_of (tb := 4) started (by kernel_rfl) Try.func8
    (ChangeSpec.witness6 (enc := enc) (C := Try.checked) false ⟨#[], #[Value.slice none 0 0, Value.slice none 0 0], []⟩ 8 (by kernel_rfl) (by kernel_rfl) (by kernel_rfl) (by kernel_rfl)) rfl (fun ds h => ?_) (by kernel_rfl) Try.underlying4 ?_ typesheaders_parsOk ?_
  · rw [show Try.f8.params.size = 2 by kernel_rfl] at h
    match ds, h with
    | [_, _], _ => rfl
  · rw [Try.params8]
    intro t ht
    simp only [List.mem_cons, List.not_mem_nil, or_false] at ht
    rcases ht with rfl | rfl
    · exact ⟨by kernel_rfl, of_decide_eq_true (by kernel_rfl)⟩
    · exact ⟨by kernel_rfl, of_decide_eq_true (by kernel_rfl)⟩
  · rintro W args x h
    obtain ⟨v0, vs0, e0, h0, v1, vs1, e1, h1, e2⟩ := h
    subst e2
    subst e1
    obtain rfl : args = #[v0, v1] := by cases args; simp_all
    exact typesheaders_walk W v0 v1 x.1 x.2.1 h0 h1
theorem typesheaders_over : Rows.typesHeadersRow.holds Try.pinned (OpenSpec.ofChange Rows.typesHeadersSpec) :=
  OpenClaim.holds_of_wide 8 Try.f8 rfl rfl rfl rfl rfl rfl rfl ⟨rfl, rfl, rfl, rfl, rfl⟩ rfl rfl rfl rfl rfl (by kernel_rfl) Try.func8 (by kernel_rfl)
    (of_decide_eq_true (by kernel_rfl)) (by unfold Func.isWrapper; first | (rw [if_pos (by decide +kernel)]; kernel_rfl) | (rw [if_neg (by decide +kernel)]; exact ⟨rfl, rfl⟩))
    (fun os started H enc _ => typesheaders_lifted os started H enc)

theorem typesheaders_holds : Rows.TypesHeadersSaid := typesheaders_over
#print axioms typesheaders_holds
end Go.Proofs.Ytiljdcopkgmcbaa.V
