/-
  CheneyLives: its row and its card, out of its walk. Printed by a program of mine (rowl.py).
-/
import Derived.Test.YtgbpglfieellpaaCv7
import Derived.Test.YtgbpglfieellpaaUpto
namespace Go.Proofs.Ytgbpglfieellpaa.V
open Go Go.ChangeShapes Go.WideShapes Go.ChangeAt Go.RowKit
set_option linter.unusedVariables false
set_option linter.unusedSimpArgs false

abbrev cheneylives_pars : List Par := [.one (.sl 64 (.cons (.int .i64) (.cons (.int .i64) (.cons (.sl 8 (.cons (.int .u64) (.nil))) (.cons (.sl 8 (.cons (.int .i64) (.nil))) (.nil)))))), .one (.sl 8 (.cons (.int .i64) (.nil))), .one (.int .i64), .one (.int .i64), .one (.bool)]
set_option maxRecDepth 100000 in
theorem cheneylives_parsOk : parsOk Try.prog Try.f6.params.toList cheneylives_pars := by
  rw [Try.params6]
  exact ⟨⟨by kernel_rfl, by kernel_rfl⟩, ⟨by kernel_rfl, by kernel_rfl⟩, ⟨by kernel_rfl, by kernel_rfl⟩, ⟨by kernel_rfl, by kernel_rfl⟩, ⟨by kernel_rfl, by kernel_rfl⟩, trivial⟩
theorem cheneylives_reads (os : Os) {H : Type} (enc : TypeId × Value → H) : ∃ places, DataW.whole enc Try.prog ((World.holding Try.prog os ⟨#[], #[], []⟩).forCall (fun _ _ => 0) ⟨#[], #[Value.slice none 0 0, Value.slice none 0 0, Value.int .i64 0, Value.int .i64 0, Value.bool false], []⟩).memory Try.f6.params.toList Rows.cheneyLivesSpec.vars false (#[Value.slice none 0 0, Value.slice none 0 0, Value.int .i64 0, Value.int .i64 0, Value.bool false] : Array Value).toList 8 = some ([.nil, .nil, .lit (.int .i64 0), .lit (.int .i64 0), .lit (.bool false)], [], places) :=
  ⟨[], by kernel_rfl⟩
set_option maxRecDepth 100000 in
theorem cheneylives_lifted (os : Os) (started : os.Started) (H : Type) (enc : TypeId × Value → H) (Fi : Stop.Interp) :
    ReturnsInHanded {} Try.checked os 6 .any ((Rows.OpenSpec.upto Rows.cheneyLivesSpec).preRow enc Try.prog Try.f6 Rows.cheneyLivesUptoRow.domain false Rows.cheneyLivesUptoRow.laid) (((Rows.OpenSpec.upto Rows.cheneyLivesSpec).at Fi).post enc Try.prog Try.f6 false true false false) := by
  obtain ⟨places, hx⟩ := cheneylives_reads os enc
  refine lifted_upto (tb := 4) Fi started (by kernel_rfl) Try.func6
    (witness_row_at (enc := enc) (C := Try.checked) false (World.holding Try.prog os ⟨#[], #[], []⟩) #[Value.slice none 0 0, Value.slice none 0 0, Value.int .i64 0, Value.int .i64 0, Value.bool false] rfl (by kernel_rfl) (by kernel_rfl) (by kernel_rfl) (OpenSpec.preRow_of_cond 8 hx (by kernel_rfl) (fun k hk => by cases hk; kernel_rfl) (by kernel_rfl) (laidMet_of_run' 8 (by kernel_rfl) (by kernel_rfl)))) rfl (fun ds h => ?_) (by kernel_rfl) Try.underlying4 ?_ cheneylives_parsOk ?_
  · rw [show Try.f6.params.size = 5 by kernel_rfl] at h
    match ds, h with
    | [_, _, _, _, _], _ => rfl
  · rw [Try.params6]
    intro t ht
    simp only [List.mem_cons, List.not_mem_nil, or_false] at ht
    rcases ht with rfl | rfl | rfl | rfl | rfl
    · exact ⟨by kernel_rfl, of_decide_eq_true (by kernel_rfl)⟩
    · exact ⟨by kernel_rfl, of_decide_eq_true (by kernel_rfl)⟩
    · exact ⟨by kernel_rfl, of_decide_eq_true (by kernel_rfl)⟩
    · exact ⟨by kernel_rfl, of_decide_eq_true (by kernel_rfl)⟩
    · exact ⟨by kernel_rfl, of_decide_eq_true (by kernel_rfl)⟩
  · rintro W args x h hbk hL
    obtain ⟨v0, vs0, e0, h0, v1, vs1, e1, h1, v2, vs2, e2, h2, v3, vs3, e3, h3, v4, vs4, e4, h4, e5⟩ := h
    subst e5
    subst e4
    subst e3
    subst e2
    subst e1
    obtain rfl : args = #[v0, v1, v2, v3, v4] := by cases args; simp_all
    exact cheneylives_walk W v0 v1 v2 v3 v4 x.1 x.2.1 x.2.2.1 x.2.2.2.1 x.2.2.2.2.1 h0 h1 h2 h3 h4
theorem cheneylives_said : Rows.CheneyLivesUptoSaid :=
  OpenClaim.holds_of_cond 6 Try.f6 rfl rfl rfl rfl rfl rfl rfl ⟨rfl, rfl, rfl, rfl, rfl⟩ rfl rfl rfl rfl rfl (by kernel_rfl) Try.func6 (by kernel_rfl)
    (of_decide_eq_true (by kernel_rfl)) (by unfold Func.isWrapper; first | (rw [if_pos (by decide +kernel)]; kernel_rfl) | (rw [if_neg (by decide +kernel)]; exact ⟨rfl, rfl⟩))
    (fun os started H enc _ F => by rw [OpenClaim.pre_eq_preRow]; exact cheneylives_lifted os started H enc F)

theorem cheneylives_holds : Rows.CheneyLivesUptoSaid := cheneylives_said
#print axioms cheneylives_holds
end Go.Proofs.Ytgbpglfieellpaa.V
