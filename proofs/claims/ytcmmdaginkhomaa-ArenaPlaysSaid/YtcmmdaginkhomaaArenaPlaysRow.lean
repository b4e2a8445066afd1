/-
  ArenaPlays: its row, out of its walk. Printed by a program of mine (row.py).
-/
import Derived.Test.YtcmmdaginkhomaaPl5
import Derived.Test.YtcmmdaginkhomaaRow
namespace Go.Proofs.Ytcmmdaginkhomaa.V
open Go Go.ChangeShapes Go.WideShapes Go.ChangeAt Go.RowKit
set_option linter.unusedVariables false
set_option linter.unusedSimpArgs false

abbrev arenaplays_pars : List Par := [.one (.int .i64), .one (.sl 96 (.cons (.int .i64) (.cons (.int .i64) (.cons (.int .i64) (.cons (.int .i64) (.cons (.int .u64) (.cons (.sl 8 (.cons (.int .u64) (.nil))) (.cons (.int .i64) (.cons (.int .i64) (.cons (.int .u64) (.cons (.bool) (.nil))))))))))))]
set_option maxRecDepth 100000 in
theorem arenaplays_parsOk : parsOk Try.prog Try.f9.params.toList arenaplays_pars := by
  rw [Try.params9]
  exact ⟨⟨by kernel_rfl, by kernel_rfl⟩, ⟨by kernel_rfl, by kernel_rfl⟩, trivial⟩
set_option maxRecDepth 100000 in
theorem arenaplays_lifted (os : Os) (started : os.Started) (H : Type) (enc : TypeId × Value → H) :
    ReturnsInHanded {} Try.checked os 9 .any (Rows.arenaPlaysSpec.pre6 enc Try.prog Try.f9 Rows.arenaPlaysRow.domain false) (Rows.arenaPlaysSpec.post enc Try.prog Try.f9 false true false false) := by
  refine lifted_of (tb := 4) started (by kernel_rfl) Try.func9
    (ChangeSpec.witness6 (enc := enc) (C := Try.checked) false ⟨#[], #[Value.int .i64 0, Value.slice none 0 0], []⟩ 8 (by kernel_rfl) (by kernel_rfl) (by kernel_rfl) (by kernel_rfl)) rfl (fun ds h => ?_) (by kernel_rfl) Try.underlying4 ?_ arenaplays_parsOk ?_
  · rw [show Try.f9.params.size = 2 by kernel_rfl] at h
    match ds, h with
    | [_, _], _ => rfl
  · rw [Try.params9]
    intro t ht
    simp only [List.mem_cons, List.not_mem_nil, or_false] at ht
    rcases ht with rfl | rfl
    · exact ⟨by kernel_rfl, of_decide_eq_true (by kernel_rfl)⟩
    · exact ⟨by kernel_rfl, of_decide_eq_true (by kernel_rfl)⟩
  · rintro W args x h
    obtain ⟨v0, vs0, e0, h0, v1, vs1, e1, h1, e2⟩ := h
    subst e2
    subst e1
    obtain rfl : args = #[v0, v1] := by cases args; simp_all
    exact arenaplays_walk W v0 v1 x.1 x.2.1 h0 h1
theorem arenaplays_over : Rows.arenaPlaysRow.holds Try.pinned (OpenSpec.ofChange Rows.arenaPlaysSpec) :=
  OpenClaim.holds_of_wide 9 Try.f9 rfl rfl rfl rfl rfl rfl rfl ⟨rfl, rfl, rfl, rfl, rfl⟩ rfl rfl rfl rfl rfl (by kernel_rfl) Try.func9 (by kernel_rfl)
    (of_decide_eq_true (by kernel_rfl)) (by unfold Func.isWrapper; first | (rw [if_pos (by decide +kernel)]; kernel_rfl) | (rw [if_neg (by decide +kernel)]; exact ⟨rfl, rfl⟩))
    (fun os started H enc _ => arenaplays_lifted os started H enc)

theorem arenaplays_holds : Rows.ArenaPlaysSaid := arenaplays_over
#print axioms arenaplays_holds
end Go.Proofs.Ytcmmdaginkhomaa.V
