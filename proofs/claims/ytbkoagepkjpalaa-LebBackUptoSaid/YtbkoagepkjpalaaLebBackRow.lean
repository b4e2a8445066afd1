/-
  LebBack: its row and its card, out of its walk. Printed by a program of mine (rowl.py).
-/
import Derived.Test.YtbkoagepkjpalaaLebBW
import Derived.Test.YtbkoagepkjpalaaUpto
namespace Go.Proofs.Ytbkoagepkjpalaa.V
open Go Go.ChangeShapes Go.WideShapes Go.ChangeAt Go.RowKit
set_option linter.unusedVariables false

abbrev lebback_pars : List Par := [.one (.sl 8 (.cons (.int .u64) (.nil))), .one (.sl 8 (.cons (.int .i64) (.nil))), .one (.sl 1 (.cons (.int .u8) (.nil)))]
set_option maxRecDepth 100000 in
theorem lebback_parsOk : parsOk Try.prog Try.f7.params.toList lebback_pars := by
  rw [Try.params7]
  exact ⟨⟨by kernel_rfl, by kernel_rfl⟩, ⟨by kernel_rfl, by kernel_rfl⟩, ⟨by kernel_rfl, by kernel_rfl⟩, trivial⟩
theorem lebback_reads (os : Os) {H : Type} (enc : TypeId × Value → H) : ∃ places, DataW.whole enc Try.prog ((World.holding Try.prog os ⟨#[], #[], []⟩).forCall (fun _ _ => 0) ⟨#[], #[Value.slice none 0 0, Value.slice none 0 0, Value.slice none 0 0], []⟩).memory Try.f7.params.toList Rows.lebBackSpec.vars false (#[Value.slice none 0 0, Value.slice none 0 0, Value.slice none 0 0] : Array Value).toList 8 = some ([.nil, .nil, .nil], [], places) :=
  ⟨[], by kernel_rfl⟩
set_option maxRecDepth 100000 in
theorem lebback_lifted (os : Os) (started : os.Started) (H : Type) (enc : TypeId × Value → H) (Fi : Stop.Interp) :
    ReturnsInHanded {} Try.checked os 7 .any ((Rows.OpenSpec.upto Rows.lebBackSpec).preRow enc Try.prog Try.f7 Rows.lebBackUptoRow.domain false Rows.lebBackUptoRow.laid) (((Rows.OpenSpec.upto Rows.lebBackSpec).at Fi).post enc Try.prog Try.f7 false true false false) := by
  obtain ⟨places, hx⟩ := lebback_reads os enc
  refine lifted_upto (tb := 4) Fi started (by kernel_rfl) Try.func7
    (witness_row_at (enc := enc) (C := Try.checked) false (World.holding Try.prog os ⟨#[], #[], []⟩) #[Value.slice none 0 0, Value.slice none 0 0, Value.slice none 0 0] rfl (by kernel_rfl) (by kernel_rfl) (by kernel_rfl) (OpenSpec.preRow_of_cond 8 hx (by kernel_rfl) (fun k hk => by cases hk; kernel_rfl) (by kernel_rfl) (laidMet_of_run' 8 (by kernel_rfl) (by kernel_rfl)))) rfl (fun ds h => ?_) (by kernel_rfl) Try.underlying4 ?_ lebback_parsOk ?_
  · rw [show Try.f7.params.size = 3 by kernel_rfl] at h
    match ds, h with
    | [_, _, _], _ => rfl
  · rw [Try.params7]
    intro t ht
    simp only [List.mem_cons, List.not_mem_nil, or_false] at ht
    rcases ht with rfl | rfl | rfl
    · exact ⟨by kernel_rfl, of_decide_eq_true (by kernel_rfl)⟩
    · exact ⟨by kernel_rfl, of_decide_eq_true (by kernel_rfl)⟩
    · exact ⟨by kernel_rfl, of_decide_eq_true (by kernel_rfl)⟩
  · rintro W args x h hbk hL
    obtain ⟨v0, vs0, e0, h0, v1, vs1, e1, h1, v2, vs2, e2, h2, e3⟩ := h
    subst e3
    subst e2
    subst e1
    obtain rfl : args = #[v0, v1, v2] := by cases args; simp_all
    exact lebback_walk W v0 v1 v2 x.1 x.2.1 x.2.2.1 h0 h1 h2 hbk
theorem lebback_said : Rows.LebBackUptoSaid :=
  OpenClaim.holds_of_cond 7 Try.f7 rfl rfl rfl rfl rfl rfl rfl ⟨rfl, rfl, rfl, rfl, rfl⟩ rfl rfl rfl rfl rfl (by kernel_rfl) Try.func7 (by kernel_rfl)
    (of_decide_eq_true (by kernel_rfl)) (by unfold Func.isWrapper; first | (rw [if_pos (by decide +kernel)]; kernel_rfl) | (rw [if_neg (by decide +kernel)]; exact ⟨rfl, rfl⟩))
    (fun os started H enc _ F => by rw [OpenClaim.pre_eq_preRow]; exact lebback_lifted os started H enc F)

theorem lebback_holds : Rows.LebBackUptoSaid := lebback_said
#print axioms lebback_holds
end Go.Proofs.Ytbkoagepkjpalaa.V
