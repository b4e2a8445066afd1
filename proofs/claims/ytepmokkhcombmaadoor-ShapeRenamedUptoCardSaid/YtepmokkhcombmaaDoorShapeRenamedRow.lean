/-
  For every input the Go function ShapeRenamed returns true, and each argument reads behind the call as it read before.
  Conditions: the listed package variables of the library hold at the beginning of the call what the program's text lays in them, which the card ties to the pruned copy of the project. What the arguments hold is of bulk at most 1048576.
  (The row and its card, out of the law's walk; the frame of this text is printed by a program of mine.)
-/
import Derived.Test.YtepmokkhcombmaaDoorSr2
import Derived.Test.YtepmokkhcombmaaDoorRowL
import Derived.Test.YtepmokkhcombmaaDoorUpto
namespace Go.Proofs.YtepmokkhcombmaaDoor.V
open Go Go.ChangeShapes Go.WideShapes Go.ChangeAt Go.RowKit
set_option linter.unusedVariables false
set_option linter.unusedSimpArgs false

abbrev shaperenamed_pars : List Par := [.one (.sl 64 (.cons (.int .i64) (.cons (.int .i64) (.cons (.sl 32 (.cons (.bool) (.cons (.int .u64) (.cons (.str) (.nil))))) (.cons (.sl 32 (.cons (.bool) (.cons (.int .u64) (.cons (.str) (.nil))))) (.nil)))))), .one (.sl 48 (.cons (.int .u64) (.cons (.str) (.cons (.sl 32 (.cons (.bool) (.cons (.int .u64) (.cons (.str) (.nil))))) (.nil))))), .one (.int .u64)]
set_option maxRecDepth 100000 in
theorem shaperenamed_parsOk : parsOk Tryd.prog Tryd.f4.params.toList shaperenamed_pars := by
  rw [Tryd.params4]
  exact ⟨⟨by kernel_rfl, by kernel_rfl⟩, ⟨by kernel_rfl, by kernel_rfl⟩, ⟨by kernel_rfl, by kernel_rfl⟩, trivial⟩
theorem shaperenamed_reads (os : Os) {H : Type} (enc : TypeId × Value → H) : ∃ places, DataW.whole enc Tryd.prog ((laidWorld os).forCall (fun _ _ => 0) ⟨#[], #[Value.slice none 0 0, Value.slice none 0 0, Value.int .u64 0], []⟩).memory Tryd.f4.params.toList Rows.shapeRenamedSpec.vars false (#[Value.slice none 0 0, Value.slice none 0 0, Value.int .u64 0] : Array Value).toList 8 = some ([.nil, .nil, .lit (.int .u64 0)], [], places) :=
  ⟨[], by kernel_rfl⟩
set_option maxRecDepth 100000 in
theorem shaperenamed_lifted (os : Os) (started : os.Started) (H : Type) (enc : TypeId × Value → H) (Fi : Stop.Interp) :
    ReturnsInHanded {} Tryd.checked os 4 .any ((Rows.OpenSpec.upto Rows.shapeRenamedSpec).preRow enc Tryd.prog Tryd.f4 Rows.shapeRenamedUptoRow.domain false Rows.shapeRenamedUptoRow.laid) (((Rows.OpenSpec.upto Rows.shapeRenamedSpec).at Fi).post enc Tryd.prog Tryd.f4 false true false false) := by
  obtain ⟨places, hx⟩ := shaperenamed_reads os enc
  refine lifted_upto (tb := 4) Fi started (by kernel_rfl) Tryd.func4
    (witness_row_at (enc := enc) (C := Tryd.checked) false (laidWorld os) #[Value.slice none 0 0, Value.slice none 0 0, Value.int .u64 0] rfl (by kernel_rfl) (by kernel_rfl) (by kernel_rfl) (OpenSpec.preRow_of_cond 8 hx (by kernel_rfl) (fun k hk => by cases hk; kernel_rfl) (by kernel_rfl) (laid_met os _))) rfl (fun ds h => ?_) (by kernel_rfl) Tryd.underlying4 ?_ shaperenamed_parsOk ?_
  · rw [show Tryd.f4.params.size = 3 by kernel_rfl] at h
    match ds, h with
    | [_, _, _], _ => rfl
  · rw [Tryd.params4]
    intro t ht
    simp only [List.mem_cons, List.not_mem_nil, or_false] at ht
    rcases ht with rfl | rfl | rfl
    · exact ⟨by kernel_rfl, of_decide_eq_true (by kernel_rfl)⟩
    · exact ⟨by kernel_rfl, of_decide_eq_true (by kernel_rfl)⟩
    · exact ⟨by kernel_rfl, of_decide_eq_true (by kernel_rfl)⟩
  · rintro W args x h hbk hL
    obtain ⟨v0, vs0, e0, h0, v1, vs1, e1, h1, v2, vs2, e2, h2, e3⟩ := h
    subst e3
    subst e2
    subst e1
    obtain rfl : args = #[v0, v1, v2] := by cases args; simp_all
    exact shaperenamed_walk W (lay_of hL) v0 v1 v2 x.1 x.2.1 x.2.2.1 h0 h1 h2 hbk
theorem shaperenamed_said : Rows.ShapeRenamedUptoSaid :=
  OpenClaim.holds_of_cond 4 Tryd.f4 rfl rfl rfl rfl rfl rfl rfl ⟨rfl, rfl, rfl, rfl, rfl⟩ rfl rfl rfl rfl rfl (by kernel_rfl) Tryd.func4 (by kernel_rfl)
    (of_decide_eq_true (by kernel_rfl)) (by unfold Func.isWrapper; first | (rw [if_pos (by decide +kernel)]; kernel_rfl) | (rw [if_neg (by decide +kernel)]; exact ⟨rfl, rfl⟩))
    (fun os started H enc _ F => by rw [OpenClaim.pre_eq_preRow]; exact shaperenamed_lifted os started H enc F)

theorem shaperenamed_plain (f : FuncId) (fn : Func) (hf : Tryd.pinned.checked.prog.funcNamed "tideway/tidewaylaw16.ShapeRenamed" = some f) (hfn : Tryd.pinned.checked.prog.funcs[f]? = some fn) :
    false = Tryd.pinned.checked.prog.looks [] ∧ ∀ (j : Nat) t, fn.params[j]? = some t → Tryd.pinned.checked.prog.wantsStandIn t = false := by
  obtain rfl : f = 4 := Option.some.inj ((show Tryd.prog.funcNamed "tideway/tidewaylaw16.ShapeRenamed" = some 4 by kernel_rfl).symm.trans hf) |>.symm
  obtain rfl : fn = Tryd.f4 := (Option.some.inj (Tryd.func4.symm.trans hfn)).symm
  refine ⟨by kernel_rfl, fun j t ht => ?_⟩
  rw [Tryd.params4] at ht
  have hm := Array.mem_of_getElem? ht
  simp only [List.mem_toArray, List.mem_cons, List.not_mem_nil, or_false] at hm
  rcases hm with rfl | rfl | rfl
  · exact (show Tryd.prog.wantsStandIn 22 = false by kernel_rfl)
  · exact (show Tryd.prog.wantsStandIn 23 = false by kernel_rfl)
  · exact (show Tryd.prog.wantsStandIn 28 = false by kernel_rfl)
theorem shaperenamed_holds : Rows.ShapeRenamedUptoCardSaid :=
  Claim7.holds_tied_plain_at .later [] _ _ _ _ shaperenamed_said (fun _ h => by cases h) (by kernel_rfl) (fun _ h => by cases h) shapeRenamedUpto_row_tie rfl ⟨rfl, rfl⟩ (by kernel_rfl) rfl shaperenamed_plain (by kernel_rfl)
#print axioms shaperenamed_holds
end Go.Proofs.YtepmokkhcombmaaDoor.V
