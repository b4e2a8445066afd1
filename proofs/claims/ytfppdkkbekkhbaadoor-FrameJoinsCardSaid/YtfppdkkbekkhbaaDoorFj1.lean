/-
  Law FrameJoins: the walk.
-/
import Derived.Test.YtfppdkkbekkhbaaDoorFl1
namespace Go.Proofs.YtfppdkkbekkhbaaDoor.V
open Go Go.RowKit
set_option linter.unusedVariables false
set_option linter.unusedSimpArgs false
set_option maxRecDepth 100000

theorem framejoins_walk (w : World) (L : Lay w) (v0 v1 : Value) (x0 x1 : FrR.T) (h0 : (Par.agg FrR).Is w v0 x0) (h1 : (Par.agg FrR).Is w v1 x1) :
    Calls Tryd.prog 3 #[v0, v1] w fun e w' => e = .returned (.bool true) ∧ Ext w w' := by
  obtain ⟨a0, a1, xs, ys, rfl, ha, la0, la1⟩ := is_fr h0
  obtain ⟨b0, b1, xs', ys', rfl, hb, lb0, lb1⟩ := is_fr h1
  refine vc_3 _ _ _ _ _ _ ?_
  simp only [eq_self, false_or, or_false, true_and, and_true, decide_eq_true_eq, decide_eq_false_iff_not, gd_st, gd_sf, exists_eq_left', exists_eq_left, Option.some.injEq, Sl.eta, Nat.reduceLeDiff, Int.reduceLE, Int.reduceLT, Int.reduceEq, Int.reduceNe, Nat.reduceMul, Nat.reduceAdd, Nat.reduceSub, Int.toNat_natCast, beq_iff_eq, bne_iff_ne, beq_eq_false_iff_ne, bne_eq_false_iff_eq, pick_and, pick_or, Bool.and_eq_true, Bool.or_eq_true, Bool.and_eq_false_iff, Bool.or_eq_false_iff, ne_eq, not_false_eq_true, Bool.not_eq_true', Bool.not_eq_false', reduceCtorEq, Nat.le_refl, Nat.zero_mul, Nat.mul_one, Nat.zero_add, Int.reduceToNat, ones, one, add_mk, Decidable.not_not, cond_true, cond_false, true_implies, false_implies, implies_true, Bool.not_true, Bool.not_false]
  intro w1 n1 w2 n2
  have x2 := n1.ext.trans n2.ext
  have f2 : FB w2 w.heap.size a0 a1 := (Blk.new n1).ext n2.ext
  have g2 : FB w2 w1.heap.size b0 b1 := Blk.new n2
  have z1 := n1.size; have z2 := n2.size
  refine ⟨(shown_spec w2).mono ?_⟩
  rintro e w3 ⟨rfl, x3⟩
  have f3 := f2.ext x3; have g3 := g2.ext x3
  have x03 := x2.trans x3
  refine ⟨_, rfl, a0, a1, rfl, ⟨f3.cell 0, f3.cell 1⟩, ⟨(lent_spec (ha.ext x03)).mono ?_⟩⟩
  rintro e w4 ⟨o0, o1, rfl, oa, ob, oap, x4⟩
  refine ⟨o0, o1, rfl, fun w5 n5 => ⟨rfl, FB.can n5, fun w6 s6 => ?_⟩⟩
  obtain ⟨fo6, y6⟩ := FB.made n5 s6
  have x46 := x4.trans y6
  have x06 := x03.trans x46
  refine ⟨b0, b1, rfl, ⟨(g3.ext x46).cell 0, (g3.ext x46).cell 1⟩, ⟨(lent_spec (hb.ext x06)).mono ?_⟩⟩
  rintro e w7 ⟨p0, p1, rfl, pa, pb, pap, x7⟩
  refine ⟨p0, p1, rfl, fun w8 n8 => ⟨rfl, FB.can n8, fun w9 s9 => ?_⟩⟩
  obtain ⟨fp9, y9⟩ := FB.made n8 s9
  have x69 := x7.trans y9
  have x09 := x06.trans x69
  have oa9 := (oa.ext y6).ext x69; have ob9 := (ob.ext y6).ext x69
  have pa9 := pa.ext y9; have pb9 := pb.ext y9
  have fo9 := fo6.ext x69
  refine ⟨o0, o1, rfl, ⟨fo9.cell 0, fo9.cell 1⟩, p0, p1, rfl, ⟨fp9.cell 0, fp9.cell 1⟩, ⟨(join_spec ⟨oa9.rd, ob9.rd, ha.m, ha.k⟩ ⟨pa9.rd, pb9.rd, hb.m, hb.k⟩).mono ?_⟩⟩
  rintro e w10 ⟨s, t, rfl, j⟩
  refine ⟨s, t, _, rfl, fun w11 n11 => ⟨rfl, FB.can n11, fun w12 s12 => ?_⟩⟩
  obtain ⟨fj12, y12⟩ := FB.made n11 s12
  have x912 := j.x.trans y12
  have x012 := x09.trans x912
  have F12 := ((f3.ext x46).ext x69).ext x912
  have G12 := ((g3.ext x46).ext x69).ext x912
  refine ⟨a0, a1, rfl, ⟨F12.cell 0, F12.cell 1⟩, b0, b1, rfl, ⟨G12.cell 0, G12.cell 1⟩, ⟨(rjoin_spec (ha.ext x012) (hb.ext x012)).mono ?_⟩⟩
  rintro e w13 ⟨s', t', rfl, k⟩
  refine ⟨s', t', _, rfl, fun w14 n14 => ⟨rfl, FB.can n14, fun w15 s15 => ?_⟩⟩
  obtain ⟨fk15, y15⟩ := FB.made n14 s15
  have x1215 := k.x.trans y15
  have x915 := x912.trans x1215
  have x015 := x012.trans x1215
  have F := F12.ext x1215; have G := G12.ext x1215
  have FO := fo9.ext x915; have FP := fp9.ext x915; have FJ := fj12.ext x1215
  have oa15 := oa9.ext x915; have ob15 := ob9.ext x915; have pa15 := pa9.ext x915; have pb15 := pb9.ext x915
  have ja15 := (j.a.ext y12).ext x1215; have jb15 := (j.b.ext y12).ext x1215
  have ka15 := k.a.ext y15; have kb15 := k.b.ext y15
  have A := ha.ext x015; have B := hb.ext x015
  refine ⟨o0, o1, rfl, ⟨FO.cell 0, FO.cell 1⟩, a0, a1, rfl, ⟨F.cell 0, F.cell 1⟩, ⟨(kept_spec oa15 ob15 oap A).mono ?_⟩⟩
  rintro e w16 ⟨rfl, u16⟩
  have z03 := x03.size; have z06 := x06.size; have z3 := x3.size
  have z4 := x4.size; have z46 := x46.size; have y6s := y6.size; have z7 := x7.size; have z9 := y9.size; have z10 := j.x.size; have y12s := y12.size; have z13 := k.x.size; have y15s := y15.size
  have old : ∀ q, (o0.a = some q ∨ o1.a = some q) → w3.heap.size ≤ q.block ∧ q.block < w4.heap.size := by
    rintro q (hq | hq)
    · exact oa.o.base q hq
    · exact ob.o.base q hq
  have oldp : ∀ q, (p0.a = some q ∨ p1.a = some q) → w6.heap.size ≤ q.block ∧ q.block < w7.heap.size := by
    rintro q (hq | hq)
    · exact pa.o.base q hq
    · exact pb.o.base q hq
  have no : ∀ g, (g < w3.heap.size ∨ w4.heap.size ≤ g) → ¬ ∃ q, (o0.a = some q ∨ o1.a = some q) ∧ g = q.block := by
    rintro g hg ⟨q, hq, rfl⟩
    have := old q hq; omega
  have nop : ∀ g, (g < w6.heap.size ∨ w7.heap.size ≤ g) → ¬ ∃ q, (p0.a = some q ∨ p1.a = some q) ∧ g = q.block := by
    rintro g hg ⟨q, hq, rfl⟩
    have := oldp q hq; omega
  have FP16 := FP.upd u16 (no _ (by omega))
  have G16 := G.upd u16 (no _ (by omega))
  have FJ16 := FJ.upd u16 (no _ (by omega))
  have FK16 := fk15.upd u16 (no _ (by omega))
  have pa16 := pa15.upd u16 (fun q hq => no _ (.inr (by have := (pa.o.base q hq).1; omega)))
  have pb16 := pb15.upd u16 (fun q hq => no _ (.inr (by have := (pb.o.base q hq).1; omega)))
  have ja16 := ja15.upd u16 (fun q hq => no _ (.inr (by have := (j.a.base q hq).1; omega)))
  have jb16 := jb15.upd u16 (fun q hq => no _ (.inr (by have := (j.b.base q hq).1; omega)))
  have ka16 := ka15.upd u16 (fun q hq => no _ (.inr (by have := (k.a.base q hq).1; omega)))
  have kb16 := kb15.upd u16 (fun q hq => no _ (.inr (by have := (k.b.base q hq).1; omega)))
  have X16 : Ext w w16 := x015.fresh u16 (by rintro i ⟨q, hq, rfl⟩; have := (old q hq).1; omega)
  refine ⟨_, rfl, p0, p1, rfl, ⟨FP16.cell 0, FP16.cell 1⟩, b0, b1, rfl, ⟨G16.cell 0, G16.cell 1⟩, ⟨(kept_spec pa16 pb16 pap (hb.ext X16)).mono ?_⟩⟩
  rintro e w17 ⟨rfl, u17⟩
  have X17 : Ext w w17 := X16.fresh u17 (by rintro i ⟨q, hq, rfl⟩; have := (oldp q hq).1; omega)
  have FJ17 := FJ16.upd u17 (nop _ (by omega))
  have FK17 := FK16.upd u17 (nop _ (by omega))
  have ja17 := ja16.upd u17 (fun q hq => nop _ (.inr (by have := (j.a.base q hq).1; omega)))
  have jb17 := jb16.upd u17 (fun q hq => nop _ (.inr (by have := (j.b.base q hq).1; omega)))
  have ka17 := ka16.upd u17 (fun q hq => nop _ (.inr (by have := (k.a.base q hq).1; omega)))
  have kb17 := kb16.upd u17 (fun q hq => nop _ (.inr (by have := (k.b.base q hq).1; omega)))
  have m0 : (if JoinOk xs ys xs' ys' then bothL xs xs' else []).length ≤ 17592186043905 := by
    split
    · rename_i h; rw [bothL_length h.1]; exact ha.m
    · exact Nat.zero_le _
  have m1 : (if JoinOk xs ys xs' ys' then bothL ys ys' else []).length ≤ 17592186043905 := by
    split
    · rename_i h; rw [bothL_length h.2]; exact ha.k
    · exact Nat.zero_le _
  refine ⟨_, rfl, s, t, rfl, ⟨FJ17.cell 0, FJ17.cell 1⟩, s', t', rfl, ⟨FK17.cell 0, FK17.cell 1⟩, ⟨(rsame_spec ⟨ja17.rd, jb17.rd, m0, m1⟩ ⟨ka17.rd, kb17.rd, m0, m1⟩).mono ?_⟩⟩
  rintro e w18 ⟨rfl, x18⟩
  have FJ18 := FJ17.ext x18
  have z15 := x015.size; have z16 := u16.size; have z17 := u17.size; have z18 := x18.size
  refine ⟨_, rfl, s, t, rfl, ⟨FJ18.cell 0, FJ18.cell 1⟩, ⟨(spoil_spec (ja17.ext x18) (jb17.ext x18) j.ap (by omega) (by omega) (by omega)).mono ?_⟩⟩
  rintro e w19 ⟨rfl, u19⟩
  have X19 : Ext w w19 := (X17.trans x18).fresh u19 (by
    rintro i ⟨q, hq | hq, rfl⟩
    · have := (j.a.base q hq).1; omega
    · have := (j.b.base q hq).1; omega)
  exact ⟨_, rfl, fun _ => ⟨fun _ => ⟨fun _ => ⟨fun _ => ⟨rfl, X19⟩, fun h => (by cases h)⟩, fun h => absurd (decide_eq_true (p := (if JoinOk xs ys xs' ys' then bothL xs xs' else []) = (if JoinOk xs ys xs' ys' then bothL xs xs' else []) ∧ (if JoinOk xs ys xs' ys' then bothL ys ys' else []) = (if JoinOk xs ys xs' ys' then bothL ys ys' else [])) ⟨rfl, rfl⟩) (by rw [h]; decide)⟩, fun h => absurd rfl h⟩, fun h => (by cases h)⟩
end Go.Proofs.YtfppdkkbekkhbaaDoor.V
