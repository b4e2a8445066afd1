/-
  ArenaPacks: its row, out of its walk. Printed by a program of mine (row.py).
-/
import Derived.Test.YtcmmdaginkhomaaLp1
import Derived.Test.YtcmmdaginkhomaaRow
namespace Go.Proofs.Ytcmmdaginkhomaa.V
open Go Go.ChangeShapes Go.WideShapes Go.ChangeAt Go.RowKit
set_option linter.unusedVariables false
set_option linter.unusedSimpArgs false

abbrev arenapacks_pars : List Par := [.agg (.cons (.int .i64) (.cons (.int .i64) (.cons (.int .i64) (.cons (.int .u64) (.nil))))), .one (.int .u64)]
set_option maxRecDepth 100000 in
theorem arenapacks_parsOk : parsOk Try.prog Try.f3.params.toList arenapacks_pars := by
  rw [Try.params3]
  exact ⟨⟨by kernel_rfl, by kernel_rfl⟩, ⟨by kernel_rfl, by kernel_rfl⟩, trivial⟩
set_option maxRecDepth 100000 in
theorem arenapacks_lifted (os : Os) (started : os.Started) (H : Type) (enc : TypeId × Value → H) :
    ReturnsInHanded {} Try.checked os 3 .any (Rows.arenaPacksSpec.pre6 enc Try.prog Try.f3 Rows.arenaPacksRow.domain false) (Rows.arenaPacksSpec.post enc Try.prog Try.f3 false true false false) := by
  refine lifted_of (tb := 4) started (by kernel_rfl) Try.func3
    (ChangeSpec.witness6 (enc := enc) (C := Try.checked) false ⟨#[], #[.agg #[Value.int .i64 0, Value.int .i64 0, Value.int .i64 0, Value.int .u64 0], Value.int .u64 0], []⟩ 8 (by kernel_rfl) (by kernel_rfl) (by kernel_rfl) (by kernel_rfl)) rfl (fun ds h => ?_) (by kernel_rfl) Try.underlying4 ?_ arenapacks_parsOk ?_
  · rw [show Try.f3.params.size = 2 by kernel_rfl] at h
    match ds, h with
    | [_, _], _ => rfl
  · rw [Try.params3]
    intro t ht
    simp only [List.mem_cons, List.not_mem_nil, or_false] at ht
    rcases ht with rfl | rfl
    · exact ⟨by kernel_rfl, of_decide_eq_true (by kernel_rfl)⟩
    · exact ⟨by kernel_rfl, of_decide_eq_true (by kernel_rfl)⟩
  · rintro W args x h
    obtain ⟨v0, vs0, e0, h0, v1, vs1, e1, h1, e2⟩ := h
    subst e2
    subst e1
    obtain rfl : args = #[v0, v1] := by cases args; simp_all
    exact arenapacks_walk W v0 v1 x.1 x.2.1 h0 h1
theorem arenapacks_over : Rows.arenaPacksRow.holds Try.pinned (OpenSpec.ofChange Rows.arenaPacksSpec) :=
  OpenClaim.holds_of_wide 3 Try.f3 rfl rfl rfl rfl rfl rfl rfl ⟨rfl, rfl, rfl, rfl, rfl⟩ rfl rfl rfl rfl rfl (by kernel_rfl) Try.func3 (by kernel_rfl)
    (of_decide_eq_true (by kernel_rfl)) (by unfold Func.isWrapper; first | (rw [if_pos (by decide +kernel)]; kernel_rfl) | (rw [if_neg (by decide +kernel)]; exact ⟨rfl, rfl⟩))
    (fun os started H enc _ => arenapacks_lifted os started H enc)

theorem arenapacks_holds : Rows.ArenaPacksSaid := arenapacks_over
#print axioms arenapacks_holds
end Go.Proofs.Ytcmmdaginkhomaa.V
