/-
  Law ArenaNews: the walk.
-/
import Derived.Test.YtcmmdaginkhomaaLp1
namespace Go.Proofs.Ytcmmdaginkhomaa.V
open Go Go.RowKit
set_option linter.unusedVariables false
set_option linter.unusedSimpArgs false
set_option maxRecDepth 100000

theorem allT_new (n : Nat) : allT (newA n) = ([], 0) := by
  unfold allT walkT
  have : stT (newA n) (newA n).use ((newA n).use.f + 1) = none := by unfold stT; rw [if_neg]; show ¬ (0 < 0 + 1 ∧ 0 + 1 ≤ 0); omega
  rw [this]; rfl
theorem checkT_new (n : Nat) : checkT (newA n) = (0, 0) := by
  unfold checkT; rw [allT_new]; rfl
theorem wordO_new (n : Nat) (i : Int) : wordO (newA n) i = (0, decide (0 ≤ i ∧ i < (2 * n : Nat))) := by
  have hl : (newA n).ws.length = 2 * n := by simp [newA]
  unfold wordO
  rw [hl]
  by_cases h : 0 ≤ i ∧ i < ((2 * n : Nat) : Int)
  · rw [if_pos h, decide_eq_true h, show (newA n).ws = List.replicate (2 * n) 0 from rfl, List.getD_eq_getElem?_getD, List.getElem?_replicate, if_pos (by omega)]; rfl
  · rw [if_neg h, decide_eq_false h]
theorem arenanews_walk (w : World) (v0 : Value) (x0 : Int) (h0 : (Par.one (.int .i64)).Is w v0 x0) :
    Calls Try.prog 5 #[v0] w fun e w' => e = .returned (.bool true) ∧ Ext w w' := by
  obtain ⟨rfl, r0⟩ := h0
  have r0 := wf_i64 r0
  refine vc_5 x0 _ _ ?_
  simp only [eq_self, false_or, or_false, true_and, and_true, decide_eq_true_eq, decide_eq_false_iff_not, gd_st, gd_sf, exists_eq_left', exists_eq_left, Option.some.injEq, Sl.eta, Nat.reduceLeDiff, Int.reduceLE, Int.reduceLT, Int.reduceEq, Int.reduceNe, Nat.reduceMul, Nat.reduceAdd, Nat.reduceSub, Int.toNat_natCast, beq_iff_eq, bne_iff_ne, beq_eq_false_iff_ne, bne_eq_false_iff_eq, pick_and, pick_or, Bool.and_eq_true, Bool.or_eq_true, Bool.and_eq_false_iff, Bool.or_eq_false_iff, ne_eq, not_false_eq_true, Bool.not_eq_true', Bool.not_eq_false', reduceCtorEq, Nat.le_refl, Nat.zero_mul, Nat.mul_one, Nat.zero_add, Int.reduceToNat, ones, one, add_mk, Decidable.not_not, cond_true, cond_false, true_implies, false_implies, implies_true, Bool.not_true, Bool.not_false]
  refine ⟨(shown_spec w).mono ?_⟩
  rintro e w1 ⟨rfl, x1⟩
  refine ⟨_, rfl, ⟨(new_spec (n := x0) (by omega) w1).mono ?_⟩⟩
  rintro e w2 ⟨x2, hcase⟩
  rcases hcase with ⟨hno, rfl⟩ | ⟨k, b, g, rfl, hk, rfl, hb, hg, a2⟩
  · refine ⟨_, _, rfl, ⟨(rnew_spec (n := x0) (by omega) w2).mono ?_⟩⟩
    rintro e w3 ⟨x3, ⟨_, rfl⟩ | ⟨k, b, g, rfl, hk, _⟩⟩
    · exact ⟨_, _, rfl, fun _ => ⟨fun _ => ⟨fun h => absurd rfl h, fun _ => ⟨fun _ => (x1.trans x2).trans x3, fun h => (by cases h)⟩⟩, fun h => absurd rfl h⟩, fun h => (by cases h)⟩
    · omega
  refine ⟨_, _, rfl, ⟨(rnew_spec (n := (k : Int)) (by omega) w2).mono ?_⟩⟩
  rintro e w3 ⟨x3, ⟨hno, rfl⟩ | ⟨k', b', g', hk', _, rfl, hb', hg', _⟩⟩
  · omega
  have a3 := a2.ext x3
  have e1 : IntKind.i64.wrap (2 * (k : Int)) = ((2 * k : Nat) : Int) := by rw [wrap_i64 (by omega) (by omega)]; omega
  have e2 : IntKind.i64.wrap (((2 * k : Nat) : Int) - 1) = ((2 * k : Nat) : Int) - 1 := wrap_i64 (by omega) (by omega)
  refine ⟨_, _, rfl, fun _ => ⟨fun _ => ⟨fun h => absurd rfl h, fun _ => ⟨fun h => (by cases h), fun _ => ?_⟩⟩, fun h => absurd rfl h⟩, fun h => (by cases h)⟩
  rw [e1, e2]
  refine ⟨(word_spec a3 _).mono ?_⟩
  rintro e w4 ⟨rfl, rfl⟩
  rw [wordO_new]
  refine ⟨_, _, rfl, ⟨(word_spec a3 _).mono ?_⟩⟩
  rintro e w5 ⟨rfl, rfl⟩
  rw [wordO_new]
  refine ⟨_, _, rfl, ⟨(check_spec a3).mono ?_⟩⟩
  rintro e w6 ⟨rfl, x6⟩
  rw [checkT_new]
  have a6 := a3.ext x6
  refine ⟨_, _, rfl, ⟨(words_spec a6).mono ?_⟩⟩
  rintro e w7 ⟨rfl, rfl⟩
  refine ⟨_, rfl, fun _ => ⟨(used_spec a6).mono ?_⟩, fun h => absurd rfl h⟩
  rintro e w8 ⟨rfl, q8⟩
  have a8 := a6.ext q8.ext
  refine ⟨_, rfl, fun _ => ⟨(left_spec a8).mono ?_⟩, fun h => absurd rfl h⟩
  rintro e w9 ⟨rfl, q9⟩
  have xx := (((x1.trans x2).trans x3).trans x6).trans (q8.ext.trans q9.ext)
  have d1 : decide ((0 : Int) ≤ ((2 * k : Nat) : Int) - 1 ∧ ((2 * k : Nat) : Int) - 1 < ((2 * k : Nat) : Int)) = decide ((0 : Int) < (k : Int)) := by
    rw [decide_eq_decide]; omega
  refine ⟨_, rfl, fun _ => ⟨fun _ => ⟨fun _ => ⟨fun _ => ⟨fun _ => ⟨rfl, xx⟩, fun h => absurd rfl h⟩, fun h => ?_⟩, fun h => absurd d1 h⟩, fun h => absurd rfl h⟩, fun h => absurd rfl h⟩
  have := of_decide_eq_true h
  omega
end Go.Proofs.Ytcmmdaginkhomaa.V
