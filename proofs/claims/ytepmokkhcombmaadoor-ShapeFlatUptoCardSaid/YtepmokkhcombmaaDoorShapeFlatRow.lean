/-
  For every input the Go function ShapeFlat returns true, and each argument reads behind the call as it read before.
  Conditions: the listed package variables of the library hold at the beginning of the call what the program's text lays in them, which the card ties to the pruned copy of the project. What the arguments hold is of bulk at most 1048576.
  (The row and its card, out of the law's walk; the frame of this text is printed by a program of mine.)
-/
import Derived.Test.YtepmokkhcombmaaDoorSf1
import Derived.Test.YtepmokkhcombmaaDoorRowL
import Derived.Test.YtepmokkhcombmaaDoorUpto
namespace Go.Proofs.YtepmokkhcombmaaDoor.V
open Go Go.ChangeShapes Go.WideShapes Go.ChangeAt Go.RowKit
set_option linter.unusedVariables false
set_option linter.unusedSimpArgs false

abbrev shapeflat_pars : List Par := [.one (.sl 64 (.cons (.int .i64) (.cons (.int .i64) (.cons (.sl 32 (.cons (.bool) (.cons (.int .u64) (.cons (.str) (.nil))))) (.cons (.sl 32 (.cons (.bool) (.cons (.int .u64) (.cons (.str) (.nil))))) (.nil)))))), .one (.int .i64)]
set_option maxRecDepth 100000 in
theorem shapeflat_parsOk : parsOk Tryd.prog Tryd.f6.params.toList shapeflat_pars := by
  rw [Tryd.params6]
  exact ⟨⟨by kernel_rfl, by kernel_rfl⟩, ⟨by kernel_rfl, by kernel_rfl⟩, trivial⟩
theorem shapeflat_reads (os : Os) {H : Type} (enc : TypeId × Value → H) : ∃ places, DataW.whole enc Tryd.prog ((laidWorld os).forCall (fun _ _ => 0) ⟨#[], #[Value.slice none 0 0, Value.int .i64 0], []⟩).memory Tryd.f6.params.toList Rows.shapeFlatSpec.vars false (#[Value.slice none 0 0, Value.int .i64 0] : Array Value).toList 8 = some ([.nil, .lit (.int .i64 0)], [], places) :=
  ⟨[], by kernel_rfl⟩
set_option maxRecDepth 100000 in
theorem shapeflat_lifted (os : Os) (started : os.Started) (H : Type) (enc : TypeId × Value → H) (Fi : Stop.Interp) :
    ReturnsInHanded {} Tryd.checked os 6 .any ((Rows.OpenSpec.upto Rows.shapeFlatSpec).preRow enc Tryd.prog Tryd.f6 Rows.shapeFlatUptoRow.domain false Rows.shapeFlatUptoRow.laid) (((Rows.OpenSpec.upto Rows.shapeFlatSpec).at Fi).post enc Tryd.prog Tryd.f6 false true false false) := by
  obtain ⟨places, hx⟩ := shapeflat_reads os enc
  refine lifted_upto (tb := 4) Fi started (by kernel_rfl) Tryd.func6
    (witness_row_at (enc := enc) (C := Tryd.checked) false (laidWorld os) #[Value.slice none 0 0, Value.int .i64 0] rfl (by kernel_rfl) (by kernel_rfl) (by kernel_rfl) (OpenSpec.preRow_of_cond 8 hx (by kernel_rfl) (fun k hk => by cases hk; kernel_rfl) (by kernel_rfl) (laid_met os _))) rfl (fun ds h => ?_) (by kernel_rfl) Tryd.underlying4 ?_ shapeflat_parsOk ?_
  · rw [show Tryd.f6.params.size = 2 by kernel_rfl] at h
    match ds, h with
    | [_, _], _ => rfl
  · rw [Tryd.params6]
    intro t ht
    simp only [List.mem_cons, List.not_mem_nil, or_false] at ht
    rcases ht with rfl | rfl
    · exact ⟨by kernel_rfl, of_decide_eq_true (by kernel_rfl)⟩
    · exact ⟨by kernel_rfl, of_decide_eq_true (by kernel_rfl)⟩
  · rintro W args x h hbk hL
    obtain ⟨v0, vs0, e0, h0, v1, vs1, e1, h1, e2⟩ := h
    subst e2
    subst e1
    obtain rfl : args = #[v0, v1] := by cases args; simp_all
    exact shapeflat_walk W (lay_of hL) v0 v1 x.1 x.2.1 h0 h1 hbk
theorem shapeflat_said : Rows.ShapeFlatUptoSaid :=
  OpenClaim.holds_of_cond 6 Tryd.f6 rfl rfl rfl rfl rfl rfl rfl ⟨rfl, rfl, rfl, rfl, rfl⟩ rfl rfl rfl rfl rfl (by kernel_rfl) Tryd.func6 (by kernel_rfl)
    (of_decide_eq_true (by kernel_rfl)) (by unfold Func.isWrapper; first | (rw [if_pos (by decide +kernel)]; kernel_rfl) | (rw [if_neg (by decide +kernel)]; exact ⟨rfl, rfl⟩))
    (fun os started H enc _ F => by rw [OpenClaim.pre_eq_preRow]; exact shapeflat_lifted os started H enc F)

theorem shapeflat_plain (f : FuncId) (fn : Func) (hf : Tryd.pinned.checked.prog.funcNamed "tideway/tidewaylaw16.ShapeFlat" = some f) (hfn : Tryd.pinned.checked.prog.funcs[f]? = some fn) :
    false = Tryd.pinned.checked.prog.looks [] ∧ ∀ (j : Nat) t, fn.params[j]? = some t → Tryd.pinned.checked.prog.wantsStandIn t = false := by
  obtain rfl : f = 6 := Option.some.inj ((show Tryd.prog.funcNamed "tideway/tidewaylaw16.ShapeFlat" = some 6 by kernel_rfl).symm.trans hf) |>.symm
  obtain rfl : fn = Tryd.f6 := (Option.some.inj (Tryd.func6.symm.trans hfn)).symm
  refine ⟨by kernel_rfl, fun j t ht => ?_⟩
  rw [Tryd.params6] at ht
  have hm := Array.mem_of_getElem? ht
  simp only [List.mem_toArray, List.mem_cons, List.not_mem_nil, or_false] at hm
  rcases hm with rfl | rfl
  · exact (show Tryd.prog.wantsStandIn 22 = false by kernel_rfl)
  · exact (show Tryd.prog.wantsStandIn 3 = false by kernel_rfl)
theorem shapeflat_holds : Rows.ShapeFlatUptoCardSaid :=
  Claim7.holds_tied_plain_at .later [] _ _ _ _ shapeflat_said (fun _ h => by cases h) (by kernel_rfl) (fun _ h => by cases h) shapeFlatUpto_row_tie rfl ⟨rfl, rfl⟩ (by kernel_rfl) rfl shapeflat_plain (by kernel_rfl)
#print axioms shapeflat_holds
end Go.Proofs.YtepmokkhcombmaaDoor.V
