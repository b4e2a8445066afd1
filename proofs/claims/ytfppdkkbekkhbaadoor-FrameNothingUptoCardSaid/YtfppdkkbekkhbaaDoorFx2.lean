/-
  Law FrameTexts: the walk, where the arguments' bulk is bounded.
-/
import Derived.Test.YtfppdkkbekkhbaaDoorFx1
import Derived.Test.YtfppdkkbekkhbaaDoorUpto
namespace Go.Proofs.YtfppdkkbekkhbaaDoor.V
open Go Go.RowKit
set_option linter.unusedVariables false
set_option linter.unusedSimpArgs false
set_option maxRecDepth 100000

theorem sum_ge {α : Type} (f : α → Nat) (h : ∀ a, 1 ≤ f a) : ∀ l : List α, l.length ≤ (l.map f).sum
  | [] => Nat.zero_le _
  | a :: l => by have := sum_ge f h l; have := h a; simp only [List.length_cons, List.map_cons, List.sum_cons]; omega
theorem is_frb {w : World} {v : Value} {x : FrR.T} (h : (Par.agg FrR).Is w v x) (hb : (Par.agg FrR).bulk x ≤ 1048576) : ∃ s t xs ys, v = frV s t ∧ Fr2 w s t xs ys ∧ Ok64 xs ∧ Ok64 ys ∧ xs.length + ys.length ≤ 1048576 := by
  obtain ⟨x0, x1, u⟩ := x
  have hb' : Dt.bulk (.sl 8 (.cons (.int .i64) .nil)) x0 + (Dt.bulk (.sl 8 (.cons (.int .i64) .nil)) x1 + 0) ≤ 1048576 := hb
  have b0 : x0.2.length + 1 ≤ Dt.bulk (.sl 8 (.cons (.int .i64) .nil)) x0 := Nat.succ_le_succ (sum_ge _ (fun _ => Nat.le_refl 1) x0.2)
  have b1 : x1.2.length + 1 ≤ Dt.bulk (.sl 8 (.cons (.int .i64) .nil)) x1 := Nat.succ_le_succ (sum_ge _ (fun _ => Nat.le_refl 1) x1.2)
  simp only [Par.Is, Rw.Is] at h
  obtain ⟨_, rfl, _, _, rfl, h1, _, _, rfl, h2, rfl⟩ := h
  have m0 : x0.2.length = x0.1.n := h1.2.1
  have m1 : x1.2.length = x1.1.n := h2.2.1
  obtain ⟨rfl, _, a2, _, xs, a4, a5⟩ := is_ints h1
  obtain ⟨rfl, _, c2, _, ys, c4, c5⟩ := is_ints h2
  have la := a4.leni; have lb := c4.leni
  exact ⟨_, _, xs, ys, rfl, ⟨a4, c4, by omega, by omega⟩, a5, c5, by omega⟩
theorem itoas_lay {w : World} {xs : List Int} (L : Lay w) (h : Ok64 xs) : Itoas w xs := by
  intro x hx hne w' x'
  refine (Tryd.strconv_Itoa x (h x hx).1 (h x hx).2 w' (L.ext x')).mono ?_
  rintro e w2 ⟨rfl, k, os, rfl⟩
  exact ⟨by unfold slotB; rw [if_neg hne], grow_ext w' k os⟩
theorem frametexts_walk (w : World) (L : Lay w) (v0 : Value) (x0 : FrR.T) (h0 : (Par.agg FrR).Is w v0 x0) (hbk : (Par.agg FrR).bulk x0 + 0 ≤ 1048576) :
    Calls Tryd.prog 4 #[v0] w fun e w' => e = .returned (.bool true) ∧ Ext w w' := by
  obtain ⟨f0, f1, xs, ys, rfl, hf, okx, oky, hl⟩ := is_frb h0 hbk
  refine vc_4 _ _ _ _ ?_
  simp only [eq_self, false_or, or_false, true_and, and_true, decide_eq_true_eq, decide_eq_false_iff_not, gd_st, gd_sf, exists_eq_left', exists_eq_left, Option.some.injEq, Sl.eta, Nat.reduceLeDiff, Int.reduceLE, Int.reduceLT, Int.reduceEq, Int.reduceNe, Nat.reduceMul, Nat.reduceAdd, Nat.reduceSub, Int.toNat_natCast, beq_iff_eq, bne_iff_ne, beq_eq_false_iff_ne, bne_eq_false_iff_eq, pick_and, pick_or, Bool.and_eq_true, Bool.or_eq_true, Bool.and_eq_false_iff, Bool.or_eq_false_iff, ne_eq, not_false_eq_true, Bool.not_eq_true', Bool.not_eq_false', reduceCtorEq, Nat.le_refl, Nat.zero_mul, Nat.mul_one, Nat.zero_add, Int.reduceToNat, ones, one, add_mk, Decidable.not_not, cond_true, cond_false, true_implies, false_implies, implies_true, Bool.not_true, Bool.not_false]
  intro w1 n1
  have z1 := n1.size
  refine ⟨(shown_spec w1).mono ?_⟩
  rintro e w2 ⟨rfl, x2⟩
  have x02 := n1.ext.trans x2
  have g2 : FB w2 w.heap.size f0 f1 := (Blk.new n1).ext x2
  refine ⟨_, rfl, f0, f1, rfl, ⟨g2.cell 0, g2.cell 1⟩, ⟨(lent_spec (hf.ext x02)).mono ?_⟩⟩
  rintro e w3 ⟨o0, o1, rfl, oa, ob, oap, x3⟩
  refine ⟨o0, o1, rfl, fun w4 n4 => ⟨rfl, FB.can n4, fun w5 s5 => ?_⟩⟩
  obtain ⟨fo5, y5⟩ := FB.made n4 s5
  have x05 := (x02.trans x3).trans y5
  have lt := textT_len okx oky
  refine ⟨o0, o1, rfl, ⟨fo5.cell 0, fo5.cell 1⟩, ⟨(text_spec ⟨(oa.ext y5).rd, (ob.ext y5).rd, hf.m, hf.k⟩ (itoas_lay (L.ext x05) okx) (itoas_lay (L.ext x05) oky) (by omega) (by omega)).mono ?_⟩⟩
  rintro e w6 ⟨rfl, x6⟩
  have fo6 := fo5.ext x6
  have g6 := ((g2.ext x3).ext y5).ext x6
  have x06 := x05.trans x6
  refine ⟨_, rfl, o0, o1, rfl, ⟨fo6.cell 0, fo6.cell 1⟩, f0, f1, rfl, ⟨g6.cell 0, g6.cell 1⟩, ⟨(kept_spec (oa.ext (y5.trans x6)) (ob.ext (y5.trans x6)) oap (hf.ext x06)).mono ?_⟩⟩
  rintro e w7 ⟨rfl, u7⟩
  have z2 := x2.size
  have old : ∀ q, (o0.a = some q ∨ o1.a = some q) → w2.heap.size ≤ q.block := by
    rintro q (hq | hq)
    · exact (oa.o.base q hq).1
    · exact (ob.o.base q hq).1
  have g7 := g6.upd u7 (by rintro ⟨q, hq, he⟩; have := old q hq; omega)
  have X7 : Ext w w7 := x06.fresh u7 (by rintro i ⟨q, hq, rfl⟩; have := old q hq; omega)
  refine ⟨_, rfl, fun _ => ⟨fun _ => ⟨f0, f1, rfl, ⟨g7.cell 0, g7.cell 1⟩, ⟨(rtext_spec (hf.ext X7) okx oky (by omega)).mono ?_⟩⟩, fun h => (by cases h)⟩, fun h => (by cases h)⟩
  rintro e w8 ⟨rfl, x8⟩
  exact ⟨_, rfl, rb (by unfold mkB; simp), X7.trans x8⟩
end Go.Proofs.YtfppdkkbekkhbaaDoor.V
