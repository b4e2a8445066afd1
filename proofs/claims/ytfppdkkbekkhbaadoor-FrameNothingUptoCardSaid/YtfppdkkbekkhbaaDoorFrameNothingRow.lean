/-
  FrameNothing: its row and its card, out of its walk. Printed by a program of mine (rowl.py).
-/
import Derived.Test.YtfppdkkbekkhbaaDoorFn1
import Derived.Test.YtfppdkkbekkhbaaDoorRowL
import Derived.Test.YtfppdkkbekkhbaaDoorUpto
namespace Go.Proofs.YtfppdkkbekkhbaaDoor.V
open Go Go.ChangeShapes Go.WideShapes Go.ChangeAt Go.RowKit
set_option linter.unusedVariables false
set_option linter.unusedSimpArgs false

abbrev framenothing_pars : List Par := [.agg (.cons (.sl 8 (.cons (.int .i64) (.nil))) (.cons (.sl 8 (.cons (.int .i64) (.nil))) (.nil)))]
set_option maxRecDepth 100000 in
theorem framenothing_parsOk : parsOk Tryd.prog Tryd.f8.params.toList framenothing_pars := by
  rw [Tryd.params8]
  exact ⟨⟨by kernel_rfl, by kernel_rfl⟩, trivial⟩
theorem framenothing_reads (os : Os) {H : Type} (enc : TypeId × Value → H) : ∃ places, DataW.whole enc Tryd.prog ((laidWorld os).forCall (fun _ _ => 0) ⟨#[], #[.agg #[Value.slice none 0 0, Value.slice none 0 0]], []⟩).memory Tryd.f8.params.toList Rows.frameNothingSpec.vars false (#[.agg #[Value.slice none 0 0, Value.slice none 0 0]] : Array Value).toList 8 = some ([.agg [.nil, .nil]], [], places) :=
  ⟨[], by kernel_rfl⟩
set_option maxRecDepth 100000 in
theorem framenothing_lifted (os : Os) (started : os.Started) (H : Type) (enc : TypeId × Value → H) (Fi : Stop.Interp) :
    ReturnsInHanded {} Tryd.checked os 8 .any ((Rows.OpenSpec.upto Rows.frameNothingSpec).preRow enc Tryd.prog Tryd.f8 Rows.frameNothingUptoRow.domain false Rows.frameNothingUptoRow.laid) (((Rows.OpenSpec.upto Rows.frameNothingSpec).at Fi).post enc Tryd.prog Tryd.f8 false true false false) := by
  obtain ⟨places, hx⟩ := framenothing_reads os enc
  refine lifted_upto (tb := 4) Fi started (by kernel_rfl) Tryd.func8
    (witness_row_at (enc := enc) (C := Tryd.checked) false (laidWorld os) #[.agg #[Value.slice none 0 0, Value.slice none 0 0]] rfl (by kernel_rfl) (by kernel_rfl) (by kernel_rfl) (OpenSpec.preRow_of_cond 8 hx (by kernel_rfl) (fun k hk => by cases hk; kernel_rfl) (by kernel_rfl) (laid_met os _))) rfl (fun ds h => ?_) (by kernel_rfl) Tryd.underlying4 ?_ framenothing_parsOk ?_
  · rw [show Tryd.f8.params.size = 1 by kernel_rfl] at h
    match ds, h with
    | [_], _ => rfl
  · rw [Tryd.params8]
    intro t ht
    simp only [List.mem_cons, List.not_mem_nil, or_false] at ht
    rcases ht with rfl
    · exact ⟨by kernel_rfl, of_decide_eq_true (by kernel_rfl)⟩
  · rintro W args x h hbk hL
    obtain ⟨v0, vs0, e0, h0, e1⟩ := h
    subst e1
    obtain rfl : args = #[v0] := by cases args; simp_all
    exact framenothing_walk W (lay_of hL) v0 x.1 h0 hbk
theorem framenothing_said : Rows.FrameNothingUptoSaid :=
  OpenClaim.holds_of_cond 8 Tryd.f8 rfl rfl rfl rfl rfl rfl rfl ⟨rfl, rfl, rfl, rfl, rfl⟩ rfl rfl rfl rfl rfl (by kernel_rfl) Tryd.func8 (by kernel_rfl)
    (of_decide_eq_true (by kernel_rfl)) (by unfold Func.isWrapper; first | (rw [if_pos (by decide +kernel)]; kernel_rfl) | (rw [if_neg (by decide +kernel)]; exact ⟨rfl, rfl⟩))
    (fun os started H enc _ F => by rw [OpenClaim.pre_eq_preRow]; exact framenothing_lifted os started H enc F)

theorem framenothing_plain (f : FuncId) (fn : Func) (hf : Tryd.pinned.checked.prog.funcNamed "tideway/tidewaylaw06.FrameNothing" = some f) (hfn : Tryd.pinned.checked.prog.funcs[f]? = some fn) :
    false = Tryd.pinned.checked.prog.looks [] ∧ ∀ (j : Nat) t, fn.params[j]? = some t → Tryd.pinned.checked.prog.wantsStandIn t = false := by
  obtain rfl : f = 8 := Option.some.inj ((show Tryd.prog.funcNamed "tideway/tidewaylaw06.FrameNothing" = some 8 by kernel_rfl).symm.trans hf) |>.symm
  obtain rfl : fn = Tryd.f8 := (Option.some.inj (Tryd.func8.symm.trans hfn)).symm
  refine ⟨by kernel_rfl, fun j t ht => ?_⟩
  rw [Tryd.params8] at ht
  have hm := Array.mem_of_getElem? ht
  simp only [List.mem_toArray, List.mem_cons, List.not_mem_nil, or_false] at hm
  rcases hm with rfl
  · exact (show Tryd.prog.wantsStandIn 24 = false by kernel_rfl)
theorem framenothing_holds : Rows.FrameNothingUptoCardSaid :=
  Claim7.holds_tied_plain_at .later [] _ _ _ _ framenothing_said (fun _ h => by cases h) (by kernel_rfl) (fun _ h => by cases h) frameNothingUpto_row_tie rfl ⟨rfl, rfl⟩ (by kernel_rfl) rfl framenothing_plain (by kernel_rfl)
#print axioms framenothing_holds
end Go.Proofs.YtfppdkkbekkhbaaDoor.V
