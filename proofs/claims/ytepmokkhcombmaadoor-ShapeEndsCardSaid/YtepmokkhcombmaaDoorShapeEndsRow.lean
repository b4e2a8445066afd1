/-
  For every input the Go function ShapeEnds returns true, and each argument reads behind the call as it read before.
  Conditions: the listed package variables of the library hold at the beginning of the call what the program's text lays in them, which the card ties to the pruned copy of the project.
  (The row and its card, out of the law's walk; the frame of this text is printed by a program of mine.)
-/
import Derived.Test.YtepmokkhcombmaaDoorSe1
import Derived.Test.YtepmokkhcombmaaDoorRowL
namespace Go.Proofs.YtepmokkhcombmaaDoor.V
open Go Go.ChangeShapes Go.WideShapes Go.ChangeAt Go.RowKit
set_option linter.unusedVariables false
set_option linter.unusedSimpArgs false

abbrev shapeends_pars : List Par := [.one (.int .u64), .one (.int .u64)]
set_option maxRecDepth 100000 in
theorem shapeends_parsOk : parsOk Tryd.prog Tryd.f5.params.toList shapeends_pars := by
  rw [Tryd.params5]
  exact ⟨⟨by kernel_rfl, by kernel_rfl⟩, ⟨by kernel_rfl, by kernel_rfl⟩, trivial⟩
theorem shapeends_reads (os : Os) {H : Type} (enc : TypeId × Value → H) : ∃ places, DataW.whole enc Tryd.prog ((laidWorld os).forCall (fun _ _ => 0) ⟨#[], #[Value.int .u64 0, Value.int .u64 0], []⟩).memory Tryd.f5.params.toList Rows.shapeEndsSpec.vars false (#[Value.int .u64 0, Value.int .u64 0] : Array Value).toList 8 = some ([.lit (.int .u64 0), .lit (.int .u64 0)], [], places) :=
  ⟨[], by kernel_rfl⟩
set_option maxRecDepth 100000 in
theorem shapeends_lifted (os : Os) (started : os.Started) (H : Type) (enc : TypeId × Value → H) (Fi : Stop.Interp) :
    ReturnsInHanded {} Tryd.checked os 5 .any ((OpenSpec.ofChange Rows.shapeEndsSpec).preRow enc Tryd.prog Tryd.f5 Rows.shapeEndsRow.domain false Rows.shapeEndsRow.laid) (((OpenSpec.ofChange Rows.shapeEndsSpec).at Fi).post enc Tryd.prog Tryd.f5 false true false false) := by
  obtain ⟨places, hx⟩ := shapeends_reads os enc
  refine lifted_laid (tb := 4) Fi started (by kernel_rfl) Tryd.func5
    (witness_row_at (enc := enc) (C := Tryd.checked) false (laidWorld os) #[Value.int .u64 0, Value.int .u64 0] rfl (by kernel_rfl) (by kernel_rfl) (by kernel_rfl) (OpenSpec.preRow_of_cond 8 hx (by kernel_rfl) (fun k hk => by cases hk) (by kernel_rfl) (laid_met os _))) rfl (fun ds h => ?_) (by kernel_rfl) Tryd.underlying4 ?_ shapeends_parsOk ?_
  · rw [show Tryd.f5.params.size = 2 by kernel_rfl] at h
    match ds, h with
    | [_, _], _ => rfl
  · rw [Tryd.params5]
    intro t ht
    simp only [List.mem_cons, List.not_mem_nil, or_false] at ht
    rcases ht with rfl | rfl
    · exact ⟨by kernel_rfl, of_decide_eq_true (by kernel_rfl)⟩
    · exact ⟨by kernel_rfl, of_decide_eq_true (by kernel_rfl)⟩
  · rintro W args x h hL
    obtain ⟨v0, vs0, e0, h0, v1, vs1, e1, h1, e2⟩ := h
    subst e2
    subst e1
    obtain rfl : args = #[v0, v1] := by cases args; simp_all
    exact shapeends_walk W (lay_of hL) v0 v1 x.1 x.2.1 h0 h1
theorem shapeends_said : Rows.ShapeEndsSaid :=
  OpenClaim.holds_of_cond 5 Tryd.f5 rfl rfl rfl rfl rfl rfl rfl ⟨rfl, rfl, rfl, rfl, rfl⟩ rfl rfl rfl rfl rfl (by kernel_rfl) Tryd.func5 (by kernel_rfl)
    (of_decide_eq_true (by kernel_rfl)) (by unfold Func.isWrapper; first | (rw [if_pos (by decide +kernel)]; kernel_rfl) | (rw [if_neg (by decide +kernel)]; exact ⟨rfl, rfl⟩))
    (fun os started H enc _ F => by rw [OpenClaim.pre_eq_preRow]; exact shapeends_lifted os started H enc F)

theorem shapeends_plain (f : FuncId) (fn : Func) (hf : Tryd.pinned.checked.prog.funcNamed "tideway/tidewaylaw16.ShapeEnds" = some f) (hfn : Tryd.pinned.checked.prog.funcs[f]? = some fn) :
    false = Tryd.pinned.checked.prog.looks [] ∧ ∀ (j : Nat) t, fn.params[j]? = some t → Tryd.pinned.checked.prog.wantsStandIn t = false := by
  obtain rfl : f = 5 := Option.some.inj ((show Tryd.prog.funcNamed "tideway/tidewaylaw16.ShapeEnds" = some 5 by kernel_rfl).symm.trans hf) |>.symm
  obtain rfl : fn = Tryd.f5 := (Option.some.inj (Tryd.func5.symm.trans hfn)).symm
  refine ⟨by kernel_rfl, fun j t ht => ?_⟩
  rw [Tryd.params5] at ht
  have hm := Array.mem_of_getElem? ht
  simp only [List.mem_toArray, List.mem_cons, List.not_mem_nil, or_false] at hm
  rcases hm with rfl | rfl
  · exact (show Tryd.prog.wantsStandIn 28 = false by kernel_rfl)
  · exact (show Tryd.prog.wantsStandIn 28 = false by kernel_rfl)
theorem shapeends_holds : Rows.ShapeEndsCardSaid :=
  Claim7.holds_tied_plain_at .later [] _ _ _ _ shapeends_said (fun _ h => by cases h) (by kernel_rfl) (fun _ h => by cases h) shapeEnds_row_tie rfl ⟨rfl, rfl⟩ (by kernel_rfl) rfl shapeends_plain (by kernel_rfl)
#print axioms shapeends_holds
end Go.Proofs.YtepmokkhcombmaaDoor.V
