/-
  Law FrameEntries: the walk.
-/
import Derived.Test.YtfppdkkbekkhbaaDoorFe1
namespace Go.Proofs.YtfppdkkbekkhbaaDoor.V
open Go Go.RowKit
set_option linter.unusedVariables false
set_option linter.unusedSimpArgs false
set_option maxRecDepth 100000

set_option maxHeartbeats 1000000 in
theorem frameentries_walk (w : World) (L : Lay w) (v0 v1 v2 : Value) (x0 : (Dt.sl 8 (.cons (.int .i64) .nil)).T) (x1 : Int) (x2 : FrR.T) (h0 : (Par.one (.sl 8 (.cons (.int .i64) .nil))).Is w v0 x0) (h1 : (Par.one (.int .i64)).Is w v1 x1) (h2 : (Par.agg FrR).Is w v2 x2) :
    Calls Tryd.prog 9 #[v0, v1, v2] w fun e w' => e = .returned (.bool true) ∧ Ext w w' := by
  obtain ⟨rfl, _, a2, _, zs, rz, _⟩ := is_ints h0
  have ln := rz.leni
  have hz : zs.length ≤ 17592186043904 := by omega
  generalize x0.1 = p at *
  obtain ⟨f0, f1, xs, ys, rfl, hf, la0, la1⟩ := is_fr h2
  obtain ⟨rfl, _⟩ := h1
  refine vc_9 _ _ _ _ _ _ ?_
  simp only [eq_self, false_or, or_false, true_and, and_true, decide_eq_true_eq, decide_eq_false_iff_not, gd_st, gd_sf, exists_eq_left', exists_eq_left, Option.some.injEq, Sl.eta, Nat.reduceLeDiff, Int.reduceLE, Int.reduceLT, Int.reduceEq, Int.reduceNe, Nat.reduceMul, Nat.reduceAdd, Nat.reduceSub, Int.toNat_natCast, beq_iff_eq, bne_iff_ne, beq_eq_false_iff_ne, bne_eq_false_iff_eq, pick_and, pick_or, Bool.and_eq_true, Bool.or_eq_true, Bool.and_eq_false_iff, Bool.or_eq_false_iff, ne_eq, not_false_eq_true, Bool.not_eq_true', Bool.not_eq_false', reduceCtorEq, Nat.le_refl, Nat.zero_mul, Nat.mul_one, Nat.zero_add, Int.reduceToNat, ones, one, add_mk, Decidable.not_not, cond_true, cond_false, true_implies, false_implies, implies_true, Bool.not_true, Bool.not_false]
  intro w1 n1
  have f1b : FB w1 w.heap.size f0 f1 := Blk.new n1
  have z1 := n1.size
  refine ⟨(shown_spec w1).mono ?_⟩
  rintro e w2 ⟨rfl, x2⟩
  have x02 := n1.ext.trans x2
  have z2 := x2.size
  refine ⟨_, rfl, fun w3 n3 => ?_⟩
  have z3 := n3.size
  have o3 : Own w3 w2.heap.size 3 1 ⟨some ⟨w2.heap.size, 0, none⟩, 0, 0⟩ (iv []) := Own.lit (z := 1) (n := 0) (cs := []) n3 (Nat.le_refl _) rfl (by decide)
  obtain ⟨r4, w4, hr4, hn4, o4, u4, c4⟩ := o3.append (t := 22) (ty := 22) tab_ok (by rfl) (by rfl) (by decide) (rz.ext (x02.trans n3.ext)) (iv_ones _) (by dsimp only; omega) (by dsimp only; omega) (by omega)
  have x24 : Ext w2 w4 := n3.ext.fresh u4 (by rintro i ⟨q, hq, rfl⟩; exact (o3.base q hq).1)
  have z4 := u4.size
  refine ⟨r4, w4, hr4, fun w5 n5 => ?_⟩
  obtain ⟨r6, w6, hr6, hn6, o6, u6, c6⟩ := push1 o4 (by omega) (by omega) n5
  have x46 : Ext w2 w6 := x24.fresh u6 (by rintro i ⟨q, hq, rfl⟩; exact (o4.base q hq).1)
  have x06 := x02.trans x46
  have z6 := u6.size
  have hr6n : r6.n = zs.length + 1 := by have := o6.rd.leni; rw [List.length_append] at this; exact this.symm
  have hcap6 := o6.cap
  refine ⟨r6, w6, hr6, by omega, by omega, ?_⟩
  rw [cut0]
  have rp6 : Rd w6 1 ⟨r6.a, p.n, r6.c⟩ (iv zs) := by
    have := o6.short (m := p.n) (by omega)
    have := this.rd
    rw [Nat.mul_one, iv_append, List.take_left' (by rw [← ln]; simp [iv])] at this
    exact this
  refine ⟨(entry_spec rp6 (by omega)).mono ?_⟩
  rintro e w7 ⟨a, rfl, oa7, x7⟩
  refine ⟨a, ⟨none, 0, 0⟩, rfl, fun w8 n8 => ⟨rfl, FB.can n8, fun w9 s9 => ?_⟩⟩
  obtain ⟨fa9, y9⟩ := FB.made n8 s9
  have x69 := x7.trans y9
  have x09 := x06.trans x69
  have f9 : FB w9 w.heap.size f0 f1 := f1b.ext ((x2.trans x46).trans x69)
  refine ⟨f0, f1, rfl, ⟨f9.cell 0, f9.cell 1⟩, ⟨(lent_spec (hf.ext x09)).mono ?_⟩⟩
  rintro e w10 ⟨o0, o1, rfl, ob0, ob1, oap, x10⟩
  refine ⟨o0, o1, rfl, fun w11 n11 => ⟨rfl, FB.can n11, fun w12 s12 => ?_⟩⟩
  obtain ⟨fo12, y12⟩ := FB.made n11 s12
  have x912 := x10.trans y12
  refine ⟨o0, o1, rfl, ⟨fo12.cell 0, fo12.cell 1⟩, ⟨(copy_spec ⟨ob0.rd.ext y12, ob1.rd.ext y12, hf.m, hf.k⟩).mono ?_⟩⟩
  rintro e w13 ⟨b0, b1, rfl, oc0, oc1, bap, x13⟩
  refine ⟨b0, b1, rfl, fun w14 n14 => ⟨rfl, FB.can n14, fun w15 s15 => ?_⟩⟩
  obtain ⟨fb15, y15⟩ := FB.made n14 s15
  have x1215 := x13.trans y15
  have x915 := x912.trans x1215
  have x015 := x09.trans x915
  have fo15 := fo12.ext x1215
  have f15 := f9.ext x915
  refine ⟨o0, o1, rfl, ⟨fo15.cell 0, fo15.cell 1⟩, f0, f1, rfl, ⟨f15.cell 0, f15.cell 1⟩, ⟨(kept_spec (ob0.ext (y12.trans x1215)) (ob1.ext (y12.trans x1215)) oap (hf.ext x015)).mono ?_⟩⟩
  rintro e w16 ⟨rfl, u16⟩
  have lfa := fa9.lt; have z7 := x7.size; have z9 := y9.size; have z10 := x10.size; have z12 := y12.size; have z13 := x13.size; have z15 := y15.size; have z16 := u16.size
  have old : ∀ q, (o0.a = some q ∨ o1.a = some q) → w9.heap.size ≤ q.block ∧ q.block < w10.heap.size := by
    rintro q (hq | hq)
    · exact ob0.o.base q hq
    · exact ob1.o.base q hq
  have no : ∀ g, (g < w9.heap.size ∨ w10.heap.size ≤ g) → ¬ ∃ q, (o0.a = some q ∨ o1.a = some q) ∧ g = q.block := by
    rintro g hg ⟨q, hq, rfl⟩
    have := old q hq; omega
  have f16 := f15.upd u16 (no _ (by omega))
  have fa16 := (fa9.ext x915).upd u16 (no _ (by omega))
  have fb16 := fb15.upd u16 (no _ (by omega))
  have p16 := (o6.ext (x69.trans x915)).upd u16 (fun q hq => no _ (.inl (by have := (o6.base q hq).2; omega)))
  have a16 := (oa7.ext (y9.trans x915)).upd u16 (fun q hq => no _ (.inl (by have := (oa7.base q hq).2; omega)))
  have b16 := (oc0.ext y15).upd u16 (fun q hq => no _ (.inr (by have := (oc0.base q hq).1; omega)))
  have d16 := (oc1.ext y15).upd u16 (fun q hq => no _ (.inr (by have := (oc1.base q hq).1; omega)))
  have X16 : Ext w w16 := x015.fresh u16 (by rintro i ⟨q, hq, rfl⟩; have := (old q hq).1; omega)
  obtain ⟨pp, hpp, _⟩ := p16.rd.2 (by omega)
  have hppb := o6.base pp hpp
  refine ⟨_, rfl, by omega, pp, hpp, p16.canAt hpp (by omega), fun w17 s17 => ?_⟩
  obtain ⟨p17, u17⟩ := p16.setAt hpp (i := 0) (by omega) s17
  have f17 := f16.upd u17 (by omega)
  have fa17 := fa16.upd u17 (by omega)
  have fb17 := fb16.upd u17 (by omega)
  have a17 := a16.upd u17 (fun q hq => by have := (oa7.base q hq).1; omega)
  have b17 := b16.upd u17 (fun q hq => by have := (oc0.base q hq).1; omega)
  have d17 := d16.upd u17 (fun q hq => by have := (oc1.base q hq).1; omega)
  have X17 : Ext w w17 := X16.fresh u17 (by rintro i rfl; omega)
  have z17 := u17.size
  intro w18 q18
  have x18 := q18.ext
  have z18 := x18.size
  refine ⟨fun _ => False, a, ⟨none, 0, 0⟩, rfl, fun v u => ⟨((fa17.ext x18).ext u).cell 0, ((fa17.ext x18).ext u).cell 1⟩, ⟨(rentry_spec (rz.ext (X17.trans x18)) (by omega)).mono ?_⟩⟩
  rintro e w19 ⟨s, rfl, rs, x19⟩
  have y1719 := x18.trans x19
  have m1 : (zs ++ List.replicate (more x1) (-1)).length ≤ 17592186044000 := by rw [List.length_append, List.length_replicate]; have := more_le x1; omega
  have rs19 : Rd w19 1 s (iv (zs ++ List.replicate (more x1) (-1))) := rs
  refine ⟨s, ⟨none, 0, 0⟩, rfl, x19, ⟨(rsame2_spec (ys := []) (ys' := []) (a17.ext y1719).rd (Own.nil w19 0 0 1).rd rs (Own.nil w19 0 0 1).rd m1 (by simp)).mono ?_⟩⟩
  rintro e w20 ⟨rfl, x20⟩
  have y1720 := y1719.trans x20
  have X20 := X17.trans y1720
  have fb20 := fb17.ext y1720; have f20 := f17.ext y1720
  refine ⟨_, rfl, b0, b1, rfl, ⟨fb20.cell 0, fb20.cell 1⟩, f0, f1, rfl, ⟨f20.cell 0, f20.cell 1⟩, ⟨(rsame2_spec (b17.ext y1720).rd (d17.ext y1720).rd (hf.ext X20).a (hf.ext X20).b (by omega) (by omega)).mono ?_⟩⟩
  rintro e w21 ⟨rfl, x21⟩
  have y1721 := y1720.trans x21
  have fb21 := fb20.ext x21
  refine ⟨_, rfl, b0, b1, rfl, ⟨fb21.cell 0, fb21.cell 1⟩, ⟨(copy_spec ⟨(b17.ext y1721).rd, (d17.ext y1721).rd, hf.m, hf.k⟩).mono ?_⟩⟩
  rintro e w22 ⟨c0, c1, rfl, e0, e1, cap, x22⟩
  refine ⟨c0, c1, rfl, fun w23 n23 => ⟨rfl, FB.can n23, fun w24 s24 => ?_⟩⟩
  obtain ⟨fc24, y24⟩ := FB.made n23 s24
  have y1724 := y1721.trans (x22.trans y24)
  have X24 := X17.trans y1724
  have fb24 := fb17.ext y1724; have fa24 := fa17.ext y1724; have f24 := f17.ext y1724
  have z1721 := y1721.size; have z22 := x22.size; have z24 := y24.size
  refine ⟨b0, b1, rfl, ⟨fb24.cell 0, fb24.cell 1⟩, ⟨(spoil_spec (b17.ext y1724) (d17.ext y1724) bap (by omega) (by omega) (by omega)).mono ?_⟩⟩
  rintro e w25 ⟨rfl, u25⟩
  have oldb : ∀ q, (b0.a = some q ∨ b1.a = some q) → w12.heap.size ≤ q.block ∧ q.block < w13.heap.size := by
    rintro q (hq | hq)
    · exact oc0.base q hq
    · exact oc1.base q hq
  have nob : ∀ g, (g < w12.heap.size ∨ w13.heap.size ≤ g) → ¬ ∃ q, (b0.a = some q ∨ b1.a = some q) ∧ g = q.block := by
    rintro g hg ⟨q, hq, rfl⟩
    have := oldb q hq; omega
  have z25 := u25.size
  have X25 : Ext w w25 := X24.fresh u25 (by rintro i ⟨q, hq, rfl⟩; have := (oldb q hq).1; omega)
  have fa25 := fa24.upd u25 (nob _ (by omega))
  have f25 := f24.upd u25 (nob _ (by omega))
  have fc25 := fc24.upd u25 (nob _ (by omega))
  have a25 := (a17.ext y1724).upd u25 (fun q hq => nob _ (by have := (oa7.base q hq).2; omega))
  have e025 := (e0.ext y24).upd u25 (fun q hq => nob _ (by have := (e0.base q hq).1; omega))
  have e125 := (e1.ext y24).upd u25 (fun q hq => nob _ (by have := (e1.base q hq).1; omega))
  have p25 := (p17.ext y1724).upd u25 (fun q hq => nob _ (by have := (o6.base q hq).2; omega))
  refine ⟨_, rfl, a, ⟨none, 0, 0⟩, rfl, ⟨fa25.cell 0, fa25.cell 1⟩, ⟨(spoil_spec (b := []) a25 (Own.nil w25 _ _ 1) (fun p q hp hq => (by cases hq)) (by omega) (by simp) (by omega)).mono ?_⟩⟩
  rintro e w26 ⟨rfl, u26⟩
  have noa : ∀ g, (g < w6.heap.size ∨ w7.heap.size ≤ g) → ¬ ∃ q, (a.a = some q ∨ (none : Option Addr) = some q) ∧ g = q.block := by
    rintro g hg ⟨q, hq | hq, rfl⟩
    · have := oa7.base q hq; omega
    · cases hq
  have X26 : Ext w w26 := X25.fresh u26 (by
    rintro i ⟨q, hq | hq, rfl⟩
    · have := oa7.base q hq; omega
    · cases hq)
  have fc26 := fc25.upd u26 (noa _ (by omega))
  have f26 := f25.upd u26 (noa _ (by omega))
  have e026 := e025.upd u26 (fun q hq => noa _ (by have := (e0.base q hq).1; omega))
  have e126 := e125.upd u26 (fun q hq => noa _ (by have := (e1.base q hq).1; omega))
  have p26 := p25.upd u26 (fun q hq => noa _ (by have := (o6.base q hq).2; omega))
  refine ⟨_, rfl, c0, c1, rfl, ⟨fc26.cell 0, fc26.cell 1⟩, f0, f1, rfl, ⟨f26.cell 0, f26.cell 1⟩, ⟨(rsame2_spec e026.rd e126.rd (hf.ext X26).a (hf.ext X26).b (by omega) (by omega)).mono ?_⟩⟩
  rintro e w27 ⟨rfl, x27⟩
  obtain ⟨q, v, hq, hv, hc⟩ := (p26.rd.ext x27).at1 p.n (by omega)
  have hv' : ((iv (zs ++ [-70])).set 0 (Value.int .i64 (-70)))[p.n]? = some (.int .i64 (-70)) := by
    rw [List.getElem?_set]
    have hl : (iv (zs ++ [-70])).length = p.n + 1 := by simp [iv]; omega
    split
    · rw [if_pos (by omega)]
    · rw [iv_append, List.getElem?_append_right (by simp [iv]; omega)]
      simp [iv, ln]
  rw [hv'] at hv
  cases hv
  refine ⟨_, rfl, fun _ => ⟨fun _ => ⟨fun _ => ⟨fun _ => ⟨fun _ => ⟨by omega, by omega, q, hq, _, hc, rfl, X26.trans x27⟩, fun h => absurd (decide_eq_true (p := xs = xs ∧ ys = ys) ⟨rfl, rfl⟩) (by rw [h]; decide)⟩, fun h => absurd (decide_eq_true (p := xs = xs ∧ ys = ys) ⟨rfl, rfl⟩) (by rw [h]; decide)⟩, fun h => absurd (decide_eq_true (p := zs ++ List.replicate (more x1) (-1) = zs ++ List.replicate (more x1) (-1) ∧ ([] : List Int) = []) ⟨rfl, rfl⟩) (by rw [h]; decide)⟩, fun h => (by cases h)⟩, fun h => (by cases h)⟩
end Go.Proofs.YtfppdkkbekkhbaaDoor.V
