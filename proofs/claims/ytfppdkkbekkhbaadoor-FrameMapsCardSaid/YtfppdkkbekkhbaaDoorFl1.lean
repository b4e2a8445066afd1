/-
  Law FrameLess: the walk.
-/
import Derived.Test.YtfppdkkbekkhbaaDoorFa5
import Derived.Test.YtfppdkkbekkhbaaDoorVcD
import Derived.Test.YtfppdkkbekkhbaaDoorRowL
namespace Go.Proofs.YtfppdkkbekkhbaaDoor.V
open Go Go.RowKit
set_option linter.unusedVariables false
set_option linter.unusedSimpArgs false
set_option maxRecDepth 100000

abbrev FrR : Rw := .cons (.sl 8 (.cons (.int .i64) .nil)) (.cons (.sl 8 (.cons (.int .i64) .nil)) .nil)
theorem is_fr {w : World} {v : Value} {x : FrR.T} (h : (Par.agg FrR).Is w v x) : ∃ s t xs ys, v = frV s t ∧ Fr2 w s t xs ys ∧ xs.length ≤ 17592186043904 ∧ ys.length ≤ 17592186043904 := by
  simp only [Par.Is, Rw.Is] at h
  obtain ⟨_, rfl, _, _, rfl, h1, _, _, rfl, h2, rfl⟩ := h
  obtain ⟨rfl, _, a2, _, xs, a4, _⟩ := is_ints h1
  obtain ⟨rfl, _, b2, _, ys, b4, _⟩ := is_ints h2
  have la := a4.leni; have lb := b4.leni
  exact ⟨_, _, xs, ys, rfl, ⟨a4, b4, by omega, by omega⟩, by omega, by omega⟩
theorem frameless_walk (w : World) (L : Lay w) (v0 v1 : Value) (x0 x1 : FrR.T) (h0 : (Par.agg FrR).Is w v0 x0) (h1 : (Par.agg FrR).Is w v1 x1) :
    Calls Tryd.prog 5 #[v0, v1] w fun e w' => e = .returned (.bool true) ∧ Ext w w' := by
  obtain ⟨a0, a1, xs, ys, rfl, ha, la0, la1⟩ := is_fr h0
  obtain ⟨b0, b1, xs', ys', rfl, hb, lb0, lb1⟩ := is_fr h1
  refine vc_5 _ _ _ _ _ _ ?_
  simp only [eq_self, false_or, or_false, true_and, and_true, decide_eq_true_eq, decide_eq_false_iff_not, gd_st, gd_sf, exists_eq_left', exists_eq_left, Option.some.injEq, Sl.eta, Nat.reduceLeDiff, Int.reduceLE, Int.reduceLT, Int.reduceEq, Int.reduceNe, Nat.reduceMul, Nat.reduceAdd, Nat.reduceSub, Int.toNat_natCast, beq_iff_eq, bne_iff_ne, beq_eq_false_iff_ne, bne_eq_false_iff_eq, pick_and, pick_or, Bool.and_eq_true, Bool.or_eq_true, Bool.and_eq_false_iff, Bool.or_eq_false_iff, ne_eq, not_false_eq_true, Bool.not_eq_true', Bool.not_eq_false', reduceCtorEq, Nat.le_refl, Nat.zero_mul, Nat.mul_one, Nat.zero_add, Int.reduceToNat, ones, one, add_mk, Decidable.not_not, cond_true, cond_false, true_implies, false_implies, implies_true, Bool.not_true, Bool.not_false]
  intro w1 n1 w2 n2
  have x2 := n1.ext.trans n2.ext
  have f2 : FB w2 w.heap.size a0 a1 := (Blk.new n1).ext n2.ext
  have g2 : FB w2 w1.heap.size b0 b1 := Blk.new n2
  have z1 := n1.size; have z2 := n2.size
  refine ⟨(shown_spec w2).mono ?_⟩
  rintro e w3 ⟨rfl, x3⟩
  have f3 := f2.ext x3; have g3 := g2.ext x3
  have x03 := x2.trans x3
  refine ⟨_, rfl, a0, a1, rfl, ⟨f3.cell 0, f3.cell 1⟩, ⟨(lent_spec (ha.ext x03)).mono ?_⟩⟩
  rintro e w4 ⟨o0, o1, rfl, oa, ob, oap, x4⟩
  refine ⟨o0, o1, rfl, fun w5 n5 => ⟨rfl, FB.can n5, fun w6 s6 => ?_⟩⟩
  obtain ⟨fo6, y6⟩ := FB.made n5 s6
  have x46 := x4.trans y6
  have x06 := x03.trans x46
  refine ⟨b0, b1, rfl, ⟨(g3.ext x46).cell 0, (g3.ext x46).cell 1⟩, ⟨(lent_spec (hb.ext x06)).mono ?_⟩⟩
  rintro e w7 ⟨p0, p1, rfl, pa, pb, pap, x7⟩
  refine ⟨p0, p1, rfl, fun w8 n8 => ⟨rfl, FB.can n8, fun w9 s9 w10 q10 => ?_⟩⟩
  obtain ⟨fp9, y9⟩ := FB.made n8 s9
  have xa := (x7.trans y9).trans q10.ext
  have xb := y9.trans q10.ext
  have x010 := x06.trans xa
  have F := (f3.ext x46).ext xa; have G := (g3.ext x46).ext xa
  have FO := fo6.ext xa
  have FP := fp9.ext q10.ext
  have oa' := (oa.ext y6).ext xa; have ob' := (ob.ext y6).ext xa
  have pa' := pa.ext xb; have pb' := pb.ext xb
  have A := ha.ext x010; have B := hb.ext x010
  have O : Fr2 w10 o0 o1 xs ys := ⟨oa'.rd, ob'.rd, ha.m, ha.k⟩
  have P : Fr2 w10 p0 p1 xs' ys' := ⟨pa'.rd, pb'.rd, hb.m, hb.k⟩
  refine ⟨fun _ => False, o0, o1, rfl, fun v u => ⟨(FO.ext u).cell 0, (FO.ext u).cell 1⟩, p0, p1, rfl, fun v u => ⟨(FP.ext u).cell 0, (FP.ext u).cell 1⟩, a0, a1, rfl, fun v u => ⟨(F.ext u).cell 0, (F.ext u).cell 1⟩, b0, b1, rfl, fun v u => ⟨(G.ext u).cell 0, (G.ext u).cell 1⟩, ⟨(same_spec O P).mono ?_⟩⟩
  rintro e w11 ⟨rfl, x11⟩
  refine ⟨_, rfl, x11, ⟨(rsame_spec (A.ext x11) (B.ext x11)).mono ?_⟩⟩
  rintro e w12 ⟨rfl, x12⟩
  have xc := x11.trans x12
  refine ⟨_, rfl, fun _ => ⟨o0, o1, rfl, fun v u => ⟨((FO.ext xc).ext u).cell 0, ((FO.ext xc).ext u).cell 1⟩, p0, p1, rfl, fun v u => ⟨((FP.ext xc).ext u).cell 0, ((FP.ext xc).ext u).cell 1⟩, a0, a1, rfl, fun v u => ⟨((F.ext xc).ext u).cell 0, ((F.ext xc).ext u).cell 1⟩, b0, b1, rfl, fun v u => ⟨((G.ext xc).ext u).cell 0, ((G.ext xc).ext u).cell 1⟩, ⟨(less_spec (O.ext xc) (P.ext xc)).mono ?_⟩⟩, fun h => absurd rfl h⟩
  rintro e w13 ⟨rfl, x13⟩
  refine ⟨_, rfl, x13, ⟨(rlessF_spec ((A.ext xc).ext x13) ((B.ext xc).ext x13)).mono ?_⟩⟩
  rintro e w14 ⟨rfl, x14⟩
  have xd := xc.trans (x13.trans x14)
  refine ⟨_, rfl, fun _ => ⟨p0, p1, rfl, fun v u => ⟨((FP.ext xd).ext u).cell 0, ((FP.ext xd).ext u).cell 1⟩, o0, o1, rfl, fun v u => ⟨((FO.ext xd).ext u).cell 0, ((FO.ext xd).ext u).cell 1⟩, b0, b1, rfl, fun v u => ⟨((G.ext xd).ext u).cell 0, ((G.ext xd).ext u).cell 1⟩, a0, a1, rfl, fun v u => ⟨((F.ext xd).ext u).cell 0, ((F.ext xd).ext u).cell 1⟩, ⟨(less_spec (P.ext xd) (O.ext xd)).mono ?_⟩⟩, fun h => absurd rfl h⟩
  rintro e w15 ⟨rfl, x15⟩
  refine ⟨_, rfl, x15, ⟨(rlessF_spec ((B.ext xd).ext x15) ((A.ext xd).ext x15)).mono ?_⟩⟩
  rintro e w16 ⟨rfl, x16⟩
  have xe := xd.trans (x15.trans x16)
  have x016 := x010.trans xe
  refine ⟨_, rfl, fun h => absurd rfl h, fun _ => ⟨o0, o1, rfl, ⟨(FO.ext xe).cell 0, (FO.ext xe).cell 1⟩, a0, a1, rfl, ⟨(F.ext xe).cell 0, (F.ext xe).cell 1⟩, ⟨(kept_spec (oa'.ext xe) (ob'.ext xe) oap (A.ext xe)).mono ?_⟩⟩⟩
  rintro e w17 ⟨rfl, u17⟩
  have z03 := x03.size; have z06 := x06.size
  have old : ∀ q, (o0.a = some q ∨ o1.a = some q) → w3.heap.size ≤ q.block ∧ q.block < w4.heap.size := by
    rintro q (hq | hq)
    · exact oa.o.base q hq
    · exact ob.o.base q hq
  have z4 := x4.size; have z3 := x3.size
  have z46 := x46.size; have y6s := y6.size; have z7 := x7.size
  have no : ∀ g, (g < w3.heap.size ∨ w4.heap.size ≤ g) → ¬ ∃ q, (o0.a = some q ∨ o1.a = some q) ∧ g = q.block := by
    rintro g hg ⟨q, hq, rfl⟩
    have := old q hq; omega
  have fp : w7.heap.size < w7.heap.size + 1 := by omega
  have FP17 := (FP.ext xe).upd u17 (no _ (by omega))
  have F17 := (F.ext xe).upd u17 (no _ (by omega))
  have G17 := (G.ext xe).upd u17 (no _ (by omega))
  have pa17 := (pa'.ext xe).upd u17 (fun q hq => no _ (.inr (by have := (pa.o.base q hq).1; omega)))
  have pb17 := (pb'.ext xe).upd u17 (fun q hq => no _ (.inr (by have := (pb.o.base q hq).1; omega)))
  have X17 : Ext w w17 := x016.fresh u17 (by rintro i ⟨q, hq, rfl⟩; have := (old q hq).1; omega)
  refine ⟨_, rfl, p0, p1, rfl, ⟨FP17.cell 0, FP17.cell 1⟩, b0, b1, rfl, ⟨G17.cell 0, G17.cell 1⟩, ⟨(kept_spec pa17 pb17 pap (hb.ext X17)).mono ?_⟩⟩
  rintro e w18 ⟨rfl, u18⟩
  have oldp : ∀ q, (p0.a = some q ∨ p1.a = some q) → w.heap.size ≤ q.block := by
    rintro q (hq | hq)
    · have := (pa.o.base q hq).1; omega
    · have := (pb.o.base q hq).1; omega
  exact ⟨_, rfl, fun _ => ⟨fun _ => ⟨rfl, X17.fresh u18 (by rintro i ⟨q, hq, rfl⟩; exact oldp q hq)⟩, fun h => (by cases h)⟩, fun h => (by cases h)⟩
end Go.Proofs.YtfppdkkbekkhbaaDoor.V
