/-
  For every input the Go function RootsLoads returns true, and each argument reads behind the call as it read before.
  Conditions: the library's variable errors.errorType holds at the beginning of the call the handle of the type error, as the program's text lays it, which the card ties to the pruned copy of the project.
  (The row and its card, out of the law's walk; the frame of this text is printed by a program of mine.)
-/
import Derived.Test.YtihnjjmbcbfheaaDoorRo9
import Derived.Test.YtihnjjmbcbfheaaDoorRowL
namespace Go.Proofs.YtihnjjmbcbfheaaDoor.V
open Go Go.ChangeShapes Go.WideShapes Go.ChangeAt Go.RowKit
set_option linter.unusedVariables false
set_option linter.unusedSimpArgs false

abbrev rootsloads_pars : List Par := [.one (.sl 1 (.cons (.int .u8) (.nil))), .one (.int .i64), .one (.int .i64)]
set_option maxRecDepth 100000 in
theorem rootsloads_parsOk : parsOk Tryd.prog Tryd.f3.params.toList rootsloads_pars := by
  rw [Tryd.params3]
  exact ⟨⟨by kernel_rfl, by kernel_rfl⟩, ⟨by kernel_rfl, by kernel_rfl⟩, ⟨by kernel_rfl, by kernel_rfl⟩, trivial⟩
theorem rootsloads_reads (os : Os) {H : Type} (enc : TypeId × Value → H) : ∃ places, DataW.whole enc Tryd.prog ((laidWorld os).forCall (fun _ _ => 0) ⟨#[], #[Value.slice none 0 0, Value.int .i64 0, Value.int .i64 0], []⟩).memory Tryd.f3.params.toList Rows.rootsLoadsSpec.vars false (#[Value.slice none 0 0, Value.int .i64 0, Value.int .i64 0] : Array Value).toList 8 = some ([.nil, .lit (.int .i64 0), .lit (.int .i64 0)], [], places) :=
  ⟨[], by kernel_rfl⟩
set_option maxRecDepth 100000 in
theorem rootsloads_lifted (os : Os) (started : os.Started) (H : Type) (enc : TypeId × Value → H) (Fi : Stop.Interp) :
    ReturnsInHanded {} Tryd.checked os 3 .any ((OpenSpec.ofChange Rows.rootsLoadsSpec).preRow enc Tryd.prog Tryd.f3 Rows.rootsLoadsRow.domain false Rows.rootsLoadsRow.laid) (((OpenSpec.ofChange Rows.rootsLoadsSpec).at Fi).post enc Tryd.prog Tryd.f3 false true false false) := by
  obtain ⟨places, hx⟩ := rootsloads_reads os enc
  refine lifted_laid (tb := 4) Fi started (by kernel_rfl) Tryd.func3
    (witness_row_at (enc := enc) (C := Tryd.checked) false (laidWorld os) #[Value.slice none 0 0, Value.int .i64 0, Value.int .i64 0] rfl (by kernel_rfl) (by kernel_rfl) (by kernel_rfl) (OpenSpec.preRow_of_cond 8 hx (by kernel_rfl) (fun k hk => by cases hk) (by kernel_rfl) (laid_met os _))) rfl (fun ds h => ?_) (by kernel_rfl) Tryd.underlying4 ?_ rootsloads_parsOk ?_
  · rw [show Tryd.f3.params.size = 3 by kernel_rfl] at h
    match ds, h with
    | [_, _, _], _ => rfl
  · rw [Tryd.params3]
    intro t ht
    simp only [List.mem_cons, List.not_mem_nil, or_false] at ht
    rcases ht with rfl | rfl | rfl
    · exact ⟨by kernel_rfl, of_decide_eq_true (by kernel_rfl)⟩
    · exact ⟨by kernel_rfl, of_decide_eq_true (by kernel_rfl)⟩
    · exact ⟨by kernel_rfl, of_decide_eq_true (by kernel_rfl)⟩
  · rintro W args x h hL
    obtain ⟨v0, vs0, e0, h0, v1, vs1, e1, h1, v2, vs2, e2, h2, e3⟩ := h
    subst e3
    subst e2
    subst e1
    obtain rfl : args = #[v0, v1, v2] := by cases args; simp_all
    exact rootsloads_walk W (lay_of hL) v0 v1 v2 x.1 x.2.1 x.2.2.1 h0 h1 h2
theorem rootsloads_said : Rows.RootsLoadsSaid :=
  OpenClaim.holds_of_cond 3 Tryd.f3 rfl rfl rfl rfl rfl rfl rfl ⟨rfl, rfl, rfl, rfl, rfl⟩ rfl rfl rfl rfl rfl (by kernel_rfl) Tryd.func3 (by kernel_rfl)
    (of_decide_eq_true (by kernel_rfl)) (by unfold Func.isWrapper; first | (rw [if_pos (by decide +kernel)]; kernel_rfl) | (rw [if_neg (by decide +kernel)]; exact ⟨rfl, rfl⟩))
    (fun os started H enc _ F => by rw [OpenClaim.pre_eq_preRow]; exact rootsloads_lifted os started H enc F)

theorem rootsloads_plain (f : FuncId) (fn : Func) (hf : Tryd.pinned.checked.prog.funcNamed "tideway/tidewaylaw09.RootsLoads" = some f) (hfn : Tryd.pinned.checked.prog.funcs[f]? = some fn) :
    true = Tryd.pinned.checked.prog.looks [] ∧ ∀ (j : Nat) t, fn.params[j]? = some t → Tryd.pinned.checked.prog.wantsStandIn t = false := by
  obtain rfl : f = 3 := Option.some.inj ((show Tryd.prog.funcNamed "tideway/tidewaylaw09.RootsLoads" = some 3 by kernel_rfl).symm.trans hf) |>.symm
  obtain rfl : fn = Tryd.f3 := (Option.some.inj (Tryd.func3.symm.trans hfn)).symm
  refine ⟨by kernel_rfl, fun j t ht => ?_⟩
  rw [Tryd.params3] at ht
  have hm := Array.mem_of_getElem? ht
  simp only [List.mem_toArray, List.mem_cons, List.not_mem_nil, or_false] at hm
  rcases hm with rfl | rfl | rfl
  · exact (show Tryd.prog.wantsStandIn 22 = false by kernel_rfl)
  · exact (show Tryd.prog.wantsStandIn 3 = false by kernel_rfl)
  · exact (show Tryd.prog.wantsStandIn 3 = false by kernel_rfl)
theorem rootsloads_holds : Rows.RootsLoadsCardSaid :=
  Claim7.holds_tied_plain_at .later [] _ _ _ _ rootsloads_said (fun _ h => by cases h) (by kernel_rfl) (fun _ h => by cases h) rootsLoads_row_tie rfl ⟨rfl, rfl⟩ (by kernel_rfl) rfl rootsloads_plain (by kernel_rfl)
#print axioms rootsloads_holds
end Go.Proofs.YtihnjjmbcbfheaaDoor.V
