/-
  Law FrameThree: the walk.
-/
import Derived.Test.YtfppdkkbekkhbaaDoorFm1
namespace Go.Proofs.YtfppdkkbekkhbaaDoor.V
open Go Go.RowKit
set_option linter.unusedVariables false
set_option linter.unusedSimpArgs false
set_option maxRecDepth 100000

theorem framethree_walk (w : World) (L : Lay w) (v0 v1 v2 : Value) (x0 x1 x2 : FrR.T) (h0 : (Par.agg FrR).Is w v0 x0) (h1 : (Par.agg FrR).Is w v1 x1) (h2 : (Par.agg FrR).Is w v2 x2) :
    Calls Tryd.prog 7 #[v0, v1, v2] w fun e w' => e = .returned (.bool true) ∧ Ext w w' := by
  obtain ⟨a0, a1, xs, ys, rfl, ha, la0, la1⟩ := is_fr h0
  obtain ⟨b0, b1, xs', ys', rfl, hb, lb0, lb1⟩ := is_fr h1
  obtain ⟨c0, c1, us, vs, rfl, hc, lc0, lc1⟩ := is_fr h2
  refine vc_7 _ _ _ _ _ _ _ _ ?_
  simp only [eq_self, false_or, or_false, true_and, and_true, decide_eq_true_eq, decide_eq_false_iff_not, gd_st, gd_sf, exists_eq_left', exists_eq_left, Option.some.injEq, Sl.eta, Nat.reduceLeDiff, Int.reduceLE, Int.reduceLT, Int.reduceEq, Int.reduceNe, Nat.reduceMul, Nat.reduceAdd, Nat.reduceSub, Int.toNat_natCast, beq_iff_eq, bne_iff_ne, beq_eq_false_iff_ne, bne_eq_false_iff_eq, pick_and, pick_or, Bool.and_eq_true, Bool.or_eq_true, Bool.and_eq_false_iff, Bool.or_eq_false_iff, ne_eq, not_false_eq_true, Bool.not_eq_true', Bool.not_eq_false', reduceCtorEq, Nat.le_refl, Nat.zero_mul, Nat.mul_one, Nat.zero_add, Int.reduceToNat, ones, one, add_mk, Decidable.not_not, cond_true, cond_false, true_implies, false_implies, implies_true, Bool.not_true, Bool.not_false]
  intro w1 n1 w2 n2 w3 n3
  have x3 := (n1.ext.trans n2.ext).trans n3.ext
  have f3 : FB w3 w.heap.size a0 a1 := (Blk.new n1).ext (n2.ext.trans n3.ext)
  have g3 : FB w3 w1.heap.size b0 b1 := (Blk.new n2).ext n3.ext
  have k3 : FB w3 w2.heap.size c0 c1 := Blk.new n3
  refine ⟨(shown_spec w3).mono ?_⟩
  rintro e w4 ⟨rfl, x4⟩
  have F : ∀ {v}, Ext w4 v → FB v w.heap.size a0 a1 := fun x => (f3.ext x4).ext x
  have G : ∀ {v}, Ext w4 v → FB v w1.heap.size b0 b1 := fun x => (g3.ext x4).ext x
  have K : ∀ {v}, Ext w4 v → FB v w2.heap.size c0 c1 := fun x => (k3.ext x4).ext x
  have x04 := x3.trans x4
  have A : ∀ {v}, Ext w4 v → Fr2 v a0 a1 xs ys := fun x => ha.ext (x04.trans x)
  have B : ∀ {v}, Ext w4 v → Fr2 v b0 b1 xs' ys' := fun x => hb.ext (x04.trans x)
  have C : ∀ {v}, Ext w4 v → Fr2 v c0 c1 us vs := fun x => hc.ext (x04.trans x)
  have eq1 : decide (LessP xs xs' ∧ LessP ys ys') = true → decide (LessP xs' xs ∧ LessP ys' ys) = decide (xs = xs' ∧ ys = ys') := by
    intro h; have h := of_decide_eq_true h
    rw [decide_eq_decide]
    exact ⟨fun k => ⟨lessP_anti h.1 k.1, lessP_anti h.2 k.2⟩, fun k => by rw [k.1, k.2]; exact ⟨lessP_refl, lessP_refl⟩⟩
  have eq2 : decide (LessP xs xs' ∧ LessP ys ys') = false → false = decide (xs = xs' ∧ ys = ys') := by
    intro h; have h := of_decide_eq_false h
    exact (decide_eq_false fun k => h (by rw [k.1, k.2]; exact ⟨lessP_refl, lessP_refl⟩)).symm
  refine ⟨_, rfl, fun v => Ext w4 v, fun w5 q5 => ⟨fun _ => False, fun _ => ⟨a0, a1, rfl, fun v u => ⟨((F q5.ext).ext u).cell 0, ((F q5.ext).ext u).cell 1⟩, a0, a1, rfl, fun v u => ⟨((F q5.ext).ext u).cell 0, ((F q5.ext).ext u).cell 1⟩, ⟨(less_spec (A q5.ext) (A q5.ext)).mono ?_⟩⟩, fun h => (by cases h)⟩, ?_⟩
  · rintro e w6 ⟨rfl, y6⟩
    have x6 := q5.ext.trans y6
    refine ⟨_, rfl, fun _ => ⟨a0, a1, rfl, fun v u => ⟨((F x6).ext u).cell 0, ((F x6).ext u).cell 1⟩, b0, b1, rfl, fun v u => ⟨((G x6).ext u).cell 0, ((G x6).ext u).cell 1⟩, ⟨(less_spec (A x6) (B x6)).mono ?_⟩⟩, fun h => absurd (decide_eq_true (p := LessP xs xs ∧ LessP ys ys) ⟨lessP_refl, lessP_refl⟩) (by rw [h]; decide)⟩
    rintro e w7 ⟨rfl, y7⟩
    have x7 := x6.trans y7
    refine ⟨_, rfl, fun hab => ⟨b0, b1, rfl, fun v u => ⟨((G x7).ext u).cell 0, ((G x7).ext u).cell 1⟩, c0, c1, rfl, fun v u => ⟨((K x7).ext u).cell 0, ((K x7).ext u).cell 1⟩, ⟨(less_spec (B x7) (C x7)).mono ?_⟩⟩, fun hab => ⟨a0, a1, rfl, fun v u => ⟨((F x7).ext u).cell 0, ((F x7).ext u).cell 1⟩, b0, b1, rfl, fun v u => ⟨((G x7).ext u).cell 0, ((G x7).ext u).cell 1⟩, a0, a1, rfl, fun v u => ⟨((F x7).ext u).cell 0, ((F x7).ext u).cell 1⟩, b0, b1, rfl, fun v u => ⟨((G x7).ext u).cell 0, ((G x7).ext u).cell 1⟩, ⟨(less_spec (A x7) (B x7)).mono ?_⟩⟩⟩
    · rintro e w8 ⟨rfl, y8⟩
      have x8 := x7.trans y8
      have hab := of_decide_eq_true hab
      refine ⟨_, rfl, fun hbc => ⟨a0, a1, rfl, fun v u => ⟨((F x8).ext u).cell 0, ((F x8).ext u).cell 1⟩, c0, c1, rfl, fun v u => ⟨((K x8).ext u).cell 0, ((K x8).ext u).cell 1⟩, ⟨(less_spec (A x8) (C x8)).mono ?_⟩⟩, fun hbc => ⟨a0, a1, rfl, fun v u => ⟨((F x8).ext u).cell 0, ((F x8).ext u).cell 1⟩, b0, b1, rfl, fun v u => ⟨((G x8).ext u).cell 0, ((G x8).ext u).cell 1⟩, a0, a1, rfl, fun v u => ⟨((F x8).ext u).cell 0, ((F x8).ext u).cell 1⟩, b0, b1, rfl, fun v u => ⟨((G x8).ext u).cell 0, ((G x8).ext u).cell 1⟩, ⟨(less_spec (A x8) (B x8)).mono ?_⟩⟩⟩
      · rintro e w9 ⟨rfl, y9⟩
        have x9 := x8.trans y9
        have hbc := of_decide_eq_true hbc
        refine ⟨_, rfl, fun _ => ⟨a0, a1, rfl, fun v u => ⟨((F x9).ext u).cell 0, ((F x9).ext u).cell 1⟩, b0, b1, rfl, fun v u => ⟨((G x9).ext u).cell 0, ((G x9).ext u).cell 1⟩, a0, a1, rfl, fun v u => ⟨((F x9).ext u).cell 0, ((F x9).ext u).cell 1⟩, b0, b1, rfl, fun v u => ⟨((G x9).ext u).cell 0, ((G x9).ext u).cell 1⟩, ⟨(less_spec (A x9) (B x9)).mono ?_⟩⟩, fun h => absurd (decide_eq_true (p := LessP xs us ∧ LessP ys vs) ⟨lessP_trans hab.1 hbc.1, lessP_trans hab.2 hbc.2⟩) (by rw [h]; decide)⟩
        rintro e w10 ⟨rfl, y10⟩
        have x10 := x9.trans y10
        refine ⟨_, rfl, y10, fun hab => ⟨b0, b1, rfl, fun v u => ⟨((G x10).ext u).cell 0, ((G x10).ext u).cell 1⟩, a0, a1, rfl, fun v u => ⟨((F x10).ext u).cell 0, ((F x10).ext u).cell 1⟩, ⟨(less_spec (B x10) (A x10)).mono ?_⟩⟩, fun hab => ⟨(same_spec (A x10) (B x10)).mono ?_⟩⟩
        · rintro e w11 ⟨rfl, y11⟩
          have x11 := x10.trans y11
          refine ⟨_, rfl, y11, ⟨(same_spec (A x11) (B x11)).mono ?_⟩⟩
          rintro e w12 ⟨rfl, y12⟩
          exact ⟨_, rfl, y12, fun h => absurd (eq1 hab) h, fun _ => x11.trans y12⟩
        · rintro e w11 ⟨rfl, y11⟩
          exact ⟨_, rfl, y11, fun h => absurd (eq2 hab) h, fun _ => x10.trans y11⟩
      · rintro e w10 ⟨rfl, y10⟩
        have x10 := x8.trans y10
        refine ⟨_, rfl, y10, fun hab => ⟨b0, b1, rfl, fun v u => ⟨((G x10).ext u).cell 0, ((G x10).ext u).cell 1⟩, a0, a1, rfl, fun v u => ⟨((F x10).ext u).cell 0, ((F x10).ext u).cell 1⟩, ⟨(less_spec (B x10) (A x10)).mono ?_⟩⟩, fun hab => ⟨(same_spec (A x10) (B x10)).mono ?_⟩⟩
        · rintro e w11 ⟨rfl, y11⟩
          have x11 := x10.trans y11
          refine ⟨_, rfl, y11, ⟨(same_spec (A x11) (B x11)).mono ?_⟩⟩
          rintro e w12 ⟨rfl, y12⟩
          exact ⟨_, rfl, y12, fun h => absurd (eq1 hab) h, fun _ => x11.trans y12⟩
        · rintro e w11 ⟨rfl, y11⟩
          exact ⟨_, rfl, y11, fun h => absurd (eq2 hab) h, fun _ => x10.trans y11⟩
    · rintro e w10 ⟨rfl, y10⟩
      have x10 := x7.trans y10
      refine ⟨_, rfl, y10, fun hab => ⟨b0, b1, rfl, fun v u => ⟨((G x10).ext u).cell 0, ((G x10).ext u).cell 1⟩, a0, a1, rfl, fun v u => ⟨((F x10).ext u).cell 0, ((F x10).ext u).cell 1⟩, ⟨(less_spec (B x10) (A x10)).mono ?_⟩⟩, fun hab => ⟨(same_spec (A x10) (B x10)).mono ?_⟩⟩
      · rintro e w11 ⟨rfl, y11⟩
        have x11 := x10.trans y11
        refine ⟨_, rfl, y11, ⟨(same_spec (A x11) (B x11)).mono ?_⟩⟩
        rintro e w12 ⟨rfl, y12⟩
        exact ⟨_, rfl, y12, fun h => absurd (eq1 hab) h, fun _ => x11.trans y12⟩
      · rintro e w11 ⟨rfl, y11⟩
        exact ⟨_, rfl, y11, fun h => absurd (eq2 hab) h, fun _ => x10.trans y11⟩
  rintro _ v5 xv
  refine ⟨a0, a1, rfl, ⟨(F xv).cell 0, (F xv).cell 1⟩, b0, b1, rfl, ⟨(G xv).cell 0, (G xv).cell 1⟩, ⟨(join_spec (A xv) (B xv)).mono ?_⟩⟩
  rintro e w5 ⟨s, t, rfl, j⟩
  refine ⟨s, t, _, rfl, fun w6 n6 => ⟨rfl, FB.can n6, fun w7 s7 => ?_⟩⟩
  obtain ⟨fj7, y7⟩ := FB.made n6 s7
  have x7 := xv.trans (j.x.trans y7)
  refine ⟨b0, b1, rfl, ⟨(G x7).cell 0, (G x7).cell 1⟩, c0, c1, rfl, ⟨(K x7).cell 0, (K x7).cell 1⟩, ⟨(join_spec (B x7) (C x7)).mono ?_⟩⟩
  rintro e w8 ⟨s', t', rfl, j'⟩
  refine ⟨s', t', _, rfl, fun w9 n9 => ⟨rfl, FB.can n9, fun w10 s10 => ?_⟩⟩
  obtain ⟨fk10, y10⟩ := FB.made n9 s10
  have x710 := j'.x.trans y10
  have x10 := x7.trans x710
  refine ⟨fun hok => ⟨fun _ => x04.trans x10, fun hok2 => ?_⟩, fun _ => x04.trans x10⟩
  have hok := of_decide_eq_true hok
  have hok2 := of_decide_eq_true hok2
  have J1 := (j.fr hok ha.m ha.k).ext y7
  have J2 := (j'.fr hok2 hb.m hb.k).ext y10
  have FJ := fj7.ext x710
  have ok3 : JoinOk (bothL xs xs') (bothL ys ys') us vs := ⟨(bothL_length hok.1).trans (hok.1.trans hok2.1), (bothL_length hok.2).trans (hok.2.trans hok2.2)⟩
  have ok4 : JoinOk xs ys (bothL xs' us) (bothL ys' vs) := ⟨hok.1.trans (bothL_length hok2.1).symm, hok.2.trans (bothL_length hok2.2).symm⟩
  refine ⟨s, t, rfl, ⟨FJ.cell 0, FJ.cell 1⟩, c0, c1, rfl, ⟨(K x10).cell 0, (K x10).cell 1⟩, ⟨(join_spec (J1.ext x710) (C x10)).mono ?_⟩⟩
  rintro e w11 ⟨s3, t3, rfl, j3⟩
  refine ⟨s3, t3, _, rfl, fun w12 n12 => ⟨rfl, FB.can n12, fun w13 s13 => ?_⟩⟩
  obtain ⟨fl13, y13⟩ := FB.made n12 s13
  have x1013 := j3.x.trans y13
  have x13 := x10.trans x1013
  have FK := fk10.ext x1013
  refine ⟨a0, a1, rfl, ⟨(F x13).cell 0, (F x13).cell 1⟩, s', t', rfl, ⟨FK.cell 0, FK.cell 1⟩, ⟨(join_spec (A x13) (J2.ext x1013)).mono ?_⟩⟩
  rintro e w14 ⟨s4, t4, rfl, j4⟩
  refine ⟨s4, t4, _, rfl, fun w15 n15 => ⟨rfl, FB.can n15, fun w16 s16 => ?_⟩⟩
  obtain ⟨fm16, y16⟩ := FB.made n15 s16
  have x1316 := j4.x.trans y16
  have x16 := x13.trans x1316
  have J3 := ((j3.fr ok3 (by rw [bothL_length hok.1]; exact ha.m) (by rw [bothL_length hok.2]; exact ha.k)).ext y13).ext x1316
  have J4 := (j4.fr ok4 ha.m ha.k).ext y16
  have FL := fl13.ext x1316
  refine ⟨fun _ => ⟨fun _ => ⟨s3, t3, rfl, ⟨FL.cell 0, FL.cell 1⟩, s4, t4, rfl, ⟨fm16.cell 0, fm16.cell 1⟩, ⟨(same_spec J3 J4).mono ?_⟩⟩, fun h => absurd (decide_eq_true ok4) (by rw [h]; decide)⟩, fun h => absurd (decide_eq_true ok3) (by rw [h]; decide)⟩
  rintro e w17 ⟨rfl, y17⟩
  exact ⟨_, rfl, rb (decide_eq_true ⟨bothL_assoc hok.1 hok2.1, bothL_assoc hok.2 hok2.2⟩), x04.trans (x16.trans y17)⟩
end Go.Proofs.YtfppdkkbekkhbaaDoor.V
