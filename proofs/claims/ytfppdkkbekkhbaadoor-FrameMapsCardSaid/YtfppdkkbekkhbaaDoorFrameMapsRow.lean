/-
  FrameMaps: its row and its card, out of its walk. Printed by a program of mine (rowl.py).
-/
import Derived.Test.YtfppdkkbekkhbaaDoorFmA
import Derived.Test.YtfppdkkbekkhbaaDoorRowL
namespace Go.Proofs.YtfppdkkbekkhbaaDoor.V
open Go Go.ChangeShapes Go.WideShapes Go.ChangeAt Go.RowKit
set_option linter.unusedVariables false
set_option linter.unusedSimpArgs false

abbrev framemaps_pars : List Par := [.one (.sl 40 (.cons (.int .i64) (.cons (.sl 8 (.cons (.int .i64) (.nil))) (.cons (.int .i64) (.nil))))), .agg (.cons (.sl 8 (.cons (.int .i64) (.nil))) (.cons (.sl 8 (.cons (.int .i64) (.nil))) (.nil)))]
set_option maxRecDepth 100000 in
theorem framemaps_parsOk : parsOk Tryd.prog Tryd.f10.params.toList framemaps_pars := by
  rw [Tryd.params10]
  exact ⟨⟨by kernel_rfl, by kernel_rfl⟩, ⟨by kernel_rfl, by kernel_rfl⟩, trivial⟩
theorem framemaps_reads (os : Os) {H : Type} (enc : TypeId × Value → H) : ∃ places, DataW.whole enc Tryd.prog ((laidWorld os).forCall (fun _ _ => 0) ⟨#[], #[Value.slice none 0 0, .agg #[Value.slice none 0 0, Value.slice none 0 0]], []⟩).memory Tryd.f10.params.toList Rows.frameMapsSpec.vars false (#[Value.slice none 0 0, .agg #[Value.slice none 0 0, Value.slice none 0 0]] : Array Value).toList 8 = some ([.nil, .agg [.nil, .nil]], [], places) :=
  ⟨[], by kernel_rfl⟩
set_option maxRecDepth 100000 in
theorem framemaps_lifted (os : Os) (started : os.Started) (H : Type) (enc : TypeId × Value → H) (Fi : Stop.Interp) :
    ReturnsInHanded {} Tryd.checked os 10 .any ((OpenSpec.ofChange Rows.frameMapsSpec).preRow enc Tryd.prog Tryd.f10 Rows.frameMapsRow.domain false Rows.frameMapsRow.laid) (((OpenSpec.ofChange Rows.frameMapsSpec).at Fi).post enc Tryd.prog Tryd.f10 false true false false) := by
  obtain ⟨places, hx⟩ := framemaps_reads os enc
  refine lifted_laid (tb := 4) Fi started (by kernel_rfl) Tryd.func10
    (witness_row_at (enc := enc) (C := Tryd.checked) false (laidWorld os) #[Value.slice none 0 0, .agg #[Value.slice none 0 0, Value.slice none 0 0]] rfl (by kernel_rfl) (by kernel_rfl) (by kernel_rfl) (OpenSpec.preRow_of_cond 8 hx (by kernel_rfl) (fun k hk => by cases hk) (by kernel_rfl) (laid_met os _))) rfl (fun ds h => ?_) (by kernel_rfl) Tryd.underlying4 ?_ framemaps_parsOk ?_
  · rw [show Tryd.f10.params.size = 2 by kernel_rfl] at h
    match ds, h with
    | [_, _], _ => rfl
  · rw [Tryd.params10]
    intro t ht
    simp only [List.mem_cons, List.not_mem_nil, or_false] at ht
    rcases ht with rfl | rfl
    · exact ⟨by kernel_rfl, of_decide_eq_true (by kernel_rfl)⟩
    · exact ⟨by kernel_rfl, of_decide_eq_true (by kernel_rfl)⟩
  · rintro W args x h hL
    obtain ⟨v0, vs0, e0, h0, v1, vs1, e1, h1, e2⟩ := h
    subst e2
    subst e1
    obtain rfl : args = #[v0, v1] := by cases args; simp_all
    exact framemaps_walk W (lay_of hL) v0 v1 x.1 x.2.1 h0 h1
theorem framemaps_said : Rows.FrameMapsSaid :=
  OpenClaim.holds_of_cond 10 Tryd.f10 rfl rfl rfl rfl rfl rfl rfl ⟨rfl, rfl, rfl, rfl, rfl⟩ rfl rfl rfl rfl rfl (by kernel_rfl) Tryd.func10 (by kernel_rfl)
    (of_decide_eq_true (by kernel_rfl)) (by unfold Func.isWrapper; first | (rw [if_pos (by decide +kernel)]; kernel_rfl) | (rw [if_neg (by decide +kernel)]; exact ⟨rfl, rfl⟩))
    (fun os started H enc _ F => by rw [OpenClaim.pre_eq_preRow]; exact framemaps_lifted os started H enc F)

theorem framemaps_plain (f : FuncId) (fn : Func) (hf : Tryd.pinned.checked.prog.funcNamed "tideway/tidewaylaw06.FrameMaps" = some f) (hfn : Tryd.pinned.checked.prog.funcs[f]? = some fn) :
    false = Tryd.pinned.checked.prog.looks [] ∧ ∀ (j : Nat) t, fn.params[j]? = some t → Tryd.pinned.checked.prog.wantsStandIn t = false := by
  obtain rfl : f = 10 := Option.some.inj ((show Tryd.prog.funcNamed "tideway/tidewaylaw06.FrameMaps" = some 10 by kernel_rfl).symm.trans hf) |>.symm
  obtain rfl : fn = Tryd.f10 := (Option.some.inj (Tryd.func10.symm.trans hfn)).symm
  refine ⟨by kernel_rfl, fun j t ht => ?_⟩
  rw [Tryd.params10] at ht
  have hm := Array.mem_of_getElem? ht
  simp only [List.mem_toArray, List.mem_cons, List.not_mem_nil, or_false] at hm
  rcases hm with rfl | rfl
  · exact (show Tryd.prog.wantsStandIn 36 = false by kernel_rfl)
  · exact (show Tryd.prog.wantsStandIn 24 = false by kernel_rfl)
theorem framemaps_holds : Rows.FrameMapsCardSaid :=
  Claim7.holds_tied_plain_at .later [] _ _ _ _ framemaps_said (fun _ h => by cases h) (by kernel_rfl) (fun _ h => by cases h) frameMaps_row_tie rfl ⟨rfl, rfl⟩ (by kernel_rfl) rfl framemaps_plain (by kernel_rfl)
#print axioms framemaps_holds
end Go.Proofs.YtfppdkkbekkhbaaDoor.V
