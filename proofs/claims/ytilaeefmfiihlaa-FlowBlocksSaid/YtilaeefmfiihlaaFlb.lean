/-
  What must be in any case.
-/
import Derived.Test.YtilaeefmfiihlaaFla
namespace Go.Proofs.Ytilaeefmfiihlaa.V
open Go Go.RowKit
set_option linter.unusedVariables false
set_option linter.unusedSimpArgs false
set_option maxRecDepth 100000

theorem not_av {E : Nat → Nat → Prop} {d : Nat} : ¬ Av E d d := fun h => by
  cases h with
  | zero h => exact h rfl
  | step _ _ h => exact h rfl
def sc3 : List Ins := [⟨19, 2, 0⟩, ⟨0, 0, 0⟩, ⟨37, 0, 0⟩]
def sc1 : List Ins := [⟨18, 0, 0⟩]
theorem sc3_next : nextT sc3 0 = [1, 2] := by decide
theorem sc1_next : nxT sc1 0 = [0] := by decide
theorem sc1_blk : blk sc1 sc1.length = [(0, 1, [0])] := by
  show blk sc1 1 = _
  have r0 : Rc sc1 0 := Rc_zero (by decide)
  rw [blk, if_pos (rB_iff.2 r0), if_pos (ldB_iff.2 ⟨r0, .inl rfl⟩), blk, List.nil_append, sc1_next]
  rfl
theorem sc1_over : overB sc1 0 0 = true := by
  unfold overB
  have r0 : Rc sc1 0 := Rc_zero (by decide)
  simp only [decide_eq_true_eq]
  exact ⟨by decide, by decide, by decide, by decide, r0, r0, not_av⟩
theorem shown_spec (w : World) : Calls Try.prog 11 #[] w fun e w' => e = .returned (.bool true) ∧ Ext w w' := by
  refine vc_11 _ _ ?_
  simp only [eq_self, false_or, or_false, true_and, and_true, decide_eq_true_eq, decide_eq_false_iff_not, gd_st, gd_sf, exists_eq_left', exists_eq_left, Option.some.injEq, Sl.eta, Nat.reduceLeDiff, Int.reduceLE, Int.reduceLT, Int.reduceEq, Int.reduceNe, Nat.reduceMul, Nat.reduceAdd, Nat.reduceSub, Int.toNat_natCast, beq_iff_eq, bne_iff_ne, beq_eq_false_iff_ne, bne_eq_false_iff_eq, pick_and, pick_or, Bool.and_eq_true, Bool.or_eq_true, Bool.and_eq_false_iff, Bool.or_eq_false_iff, ne_eq, not_false_eq_true, Bool.not_eq_true', Bool.not_eq_false', reduceCtorEq, Nat.le_refl, Nat.zero_mul, Nat.mul_one, Nat.zero_add, Int.reduceToNat, ones, one, add_mk, Decidable.not_not, cond_true, cond_false, true_implies, false_implies, implies_true, Bool.not_true, Bool.not_false]
  intro w1 n1
  have z1 := n1.size
  have r1 : Rd w1 3 ⟨some ⟨w.heap.size, 0, none⟩, 3, 3⟩ (cdV sc3) := (Blk.new n1).rd (z := 3) (o := 0) (n := 3) (c := 3) (by simp)
  refine ⟨(next_spec r1 (by decide) 0).mono ?_⟩
  rintro e w2 ⟨s, rfl, o2, x2⟩
  rw [sc3_next] at o2
  have z2 := x2.size
  refine ⟨s, rfl, fun w3 n3 => ?_⟩
  have z3 := n3.size
  have r3 : Rd w3 3 ⟨some ⟨w2.heap.size, 0, none⟩, 1, 1⟩ (cdV sc1) := (Blk.new n3).rd (z := 3) (o := 0) (n := 1) (c := 1) (by simp)
  refine ⟨(new_spec r3 (by decide)).mono ?_⟩
  rintro e w4 ⟨g, rfl, G4, x4⟩
  have z4 := x4.size
  have o4 := o2.ext (n3.ext.trans x4)
  have hsn : s.n = 2 := o4.rd.leni.symm
  obtain ⟨p, hp, hc⟩ := o4.rd.2 (by omega)
  refine ⟨_, rfl, fun _ => ⟨fun _ => ⟨by omega, p, hp, _, hc 0 _ rfl, fun _ => ⟨by omega, p, hp, _, hc 1 _ rfl, fun hne => absurd rfl hne, fun _ => ⟨(blocks_spec G4 (by decide)).mono ?_⟩⟩, fun hne => absurd rfl hne⟩, fun hne => absurd (by omega) hne⟩, fun h => (by cases h)⟩
  rintro e w5 ⟨s5, ss, rfl, M5, x5⟩
  rw [sc1_blk] at M5
  have hn5 := M5.sn
  have hl5 := M5.len
  simp only [List.length_cons, List.length_nil] at hn5 hl5
  obtain ⟨q, hq⟩ : ∃ q, ss[0]? = some q := ⟨_, List.getElem?_eq_getElem (by omega)⟩
  obtain ⟨m1, m2, m3⟩ := M5.m 0 q _ hq rfl
  obtain ⟨g0, g1, g2⟩ := bkV_get hq
  obtain ⟨p5, hp5, hc5⟩ := M5.own.rd.2 (by omega)
  have hqn := m3.rd.leni
  refine ⟨s5, rfl, fun _ => ⟨by omega, p5, hp5, _, by rw [add_add]; exact hc5 _ _ g1, fun _ => ⟨by omega, p5, hp5, q.2.2, by rw [add_add]; exact hc5 _ _ g2, fun _ => ⟨(over_spec (G4.ext x5) (by decide) 0 0).mono ?_⟩, fun hne => absurd ?_ hne⟩, fun hne => absurd ?_ hne⟩, fun hne => absurd (by omega) hne⟩
  · rintro e w6 ⟨rfl, rfl⟩
    refine ⟨_, rfl, ?_, ((((n1.ext.trans x2).trans n3.ext).trans x4).trans x5)⟩
    rw [sc1_over]
  · rw [← hqn]; rfl
  · rw [m2]; rfl
end Go.Proofs.Ytilaeefmfiihlaa.V
