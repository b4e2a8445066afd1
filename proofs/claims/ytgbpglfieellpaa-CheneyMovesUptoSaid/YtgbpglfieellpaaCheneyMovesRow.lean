/-
  CheneyMoves: its row and its card, out of its walk. Printed by a program of mine (rowl.py).
-/
import Derived.Test.YtgbpglfieellpaaCm4
import Derived.Test.YtgbpglfieellpaaUpto
namespace Go.Proofs.Ytgbpglfieellpaa.V
open Go Go.ChangeShapes Go.WideShapes Go.ChangeAt Go.RowKit
set_option linter.unusedVariables false
set_option linter.unusedSimpArgs false

abbrev cheneymoves_pars : List Par := [.one (.sl 64 (.cons (.int .i64) (.cons (.int .i64) (.cons (.sl 8 (.cons (.int .u64) (.nil))) (.cons (.sl 8 (.cons (.int .i64) (.nil))) (.nil)))))), .one (.sl 32 (.cons (.int .i64) (.cons (.int .i64) (.cons (.int .i64) (.cons (.int .u64) (.nil)))))), .one (.sl 8 (.cons (.int .u64) (.nil))), .one (.sl 8 (.cons (.int .i64) (.nil))), .one (.int .i64), .one (.bool)]
set_option maxRecDepth 100000 in
theorem cheneymoves_parsOk : parsOk Try.prog Try.f5.params.toList cheneymoves_pars := by
  rw [Try.params5]
  exact ⟨⟨by kernel_rfl, by kernel_rfl⟩, ⟨by kernel_rfl, by kernel_rfl⟩, ⟨by kernel_rfl, by kernel_rfl⟩, ⟨by kernel_rfl, by kernel_rfl⟩, ⟨by kernel_rfl, by kernel_rfl⟩, ⟨by kernel_rfl, by kernel_rfl⟩, trivial⟩
theorem cheneymoves_reads (os : Os) {H : Type} (enc : TypeId × Value → H) : ∃ places, DataW.whole enc Try.prog ((World.holding Try.prog os ⟨#[], #[], []⟩).forCall (fun _ _ => 0) ⟨#[], #[Value.slice none 0 0, Value.slice none 0 0, Value.slice none 0 0, Value.slice none 0 0, Value.int .i64 0, Value.bool false], []⟩).memory Try.f5.params.toList Rows.cheneyMovesSpec.vars false (#[Value.slice none 0 0, Value.slice none 0 0, Value.slice none 0 0, Value.slice none 0 0, Value.int .i64 0, Value.bool false] : Array Value).toList 8 = some ([.nil, .nil, .nil, .nil, .lit (.int .i64 0), .lit (.bool false)], [], places) :=
  ⟨[], by kernel_rfl⟩
set_option maxRecDepth 100000 in
theorem cheneymoves_lifted (os : Os) (started : os.Started) (H : Type) (enc : TypeId × Value → H) (Fi : Stop.Interp) :
    ReturnsInHanded {} Try.checked os 5 .any ((Rows.OpenSpec.upto Rows.cheneyMovesSpec).preRow enc Try.prog Try.f5 Rows.cheneyMovesUptoRow.domain false Rows.cheneyMovesUptoRow.laid) (((Rows.OpenSpec.upto Rows.cheneyMovesSpec).at Fi).post enc Try.prog Try.f5 false true false false) := by
  obtain ⟨places, hx⟩ := cheneymoves_reads os enc
  refine lifted_upto (tb := 4) Fi started (by kernel_rfl) Try.func5
    (witness_row_at (enc := enc) (C := Try.checked) false (World.holding Try.prog os ⟨#[], #[], []⟩) #[Value.slice none 0 0, Value.slice none 0 0, Value.slice none 0 0, Value.slice none 0 0, Value.int .i64 0, Value.bool false] rfl (by kernel_rfl) (by kernel_rfl) (by kernel_rfl) (OpenSpec.preRow_of_cond 8 hx (by kernel_rfl) (fun k hk => by cases hk; kernel_rfl) (by kernel_rfl) (laidMet_of_run' 8 (by kernel_rfl) (by kernel_rfl)))) rfl (fun ds h => ?_) (by kernel_rfl) Try.underlying4 ?_ cheneymoves_parsOk ?_
  · rw [show Try.f5.params.size = 6 by kernel_rfl] at h
    match ds, h with
    | [_, _, _, _, _, _], _ => rfl
  · rw [Try.params5]
    intro t ht
    simp only [List.mem_cons, List.not_mem_nil, or_false] at ht
    rcases ht with rfl | rfl | rfl | rfl | rfl | rfl
    · exact ⟨by kernel_rfl, of_decide_eq_true (by kernel_rfl)⟩
    · exact ⟨by kernel_rfl, of_decide_eq_true (by kernel_rfl)⟩
    · exact ⟨by kernel_rfl, of_decide_eq_true (by kernel_rfl)⟩
    · exact ⟨by kernel_rfl, of_decide_eq_true (by kernel_rfl)⟩
    · exact ⟨by kernel_rfl, of_decide_eq_true (by kernel_rfl)⟩
    · exact ⟨by kernel_rfl, of_decide_eq_true (by kernel_rfl)⟩
  · rintro W args x h hbk hL
    obtain ⟨v0, vs0, e0, h0, v1, vs1, e1, h1, v2, vs2, e2, h2, v3, vs3, e3, h3, v4, vs4, e4, h4, v5, vs5, e5, h5, e6⟩ := h
    subst e6
    subst e5
    subst e4
    subst e3
    subst e2
    subst e1
    obtain rfl : args = #[v0, v1, v2, v3, v4, v5] := by cases args; simp_all
    have b2 : x.2.2.1.2.length + 1 ≤ (Par.one (.sl 8 (.cons (.int .u64) .nil))).bulk x.2.2.1 := Nat.succ_le_succ (sum_ge _ (fun _ => Nat.le_refl 1) x.2.2.1.2)
    have b3 : x.2.2.2.1.2.length + 1 ≤ (Par.one (.sl 8 (.cons (.int .i64) .nil))).bulk x.2.2.2.1 := Nat.succ_le_succ (sum_ge _ (fun _ => Nat.le_refl 1) x.2.2.2.1.2)
    have hbk' : (Par.one (.sl 64 ThR)).bulk x.1 + ((Par.one (.sl 32 WdR)).bulk x.2.1 + ((Par.one (.sl 8 (.cons (.int .u64) .nil))).bulk x.2.2.1 + ((Par.one (.sl 8 (.cons (.int .i64) .nil))).bulk x.2.2.2.1 + ((Par.one (.int .i64)).bulk x.2.2.2.2.1 + ((Par.one .bool).bulk x.2.2.2.2.2.1 + 0))))) ≤ 1048576 := hbk
    exact cheneymoves_walk W v0 v1 v2 v3 v4 v5 x.1 x.2.1 x.2.2.1 x.2.2.2.1 x.2.2.2.2.1 x.2.2.2.2.2.1 h0 h1 h2 h3 h4 h5 (by omega) (by omega)
theorem cheneymoves_said : Rows.CheneyMovesUptoSaid :=
  OpenClaim.holds_of_cond 5 Try.f5 rfl rfl rfl rfl rfl rfl rfl ⟨rfl, rfl, rfl, rfl, rfl⟩ rfl rfl rfl rfl rfl (by kernel_rfl) Try.func5 (by kernel_rfl)
    (of_decide_eq_true (by kernel_rfl)) (by unfold Func.isWrapper; first | (rw [if_pos (by decide +kernel)]; kernel_rfl) | (rw [if_neg (by decide +kernel)]; exact ⟨rfl, rfl⟩))
    (fun os started H enc _ F => by rw [OpenClaim.pre_eq_preRow]; exact cheneymoves_lifted os started H enc F)

theorem cheneymoves_holds : Rows.CheneyMovesUptoSaid := cheneymoves_said
#print axioms cheneymoves_holds
end Go.Proofs.Ytgbpglfieellpaa.V
