/-
  The laws of types: More.
-/
import Derived.Test.YtiljdcopkgmcbaaLy10
namespace Go.Proofs.Ytiljdcopkgmcbaa.V
open Go Go.RowKit
set_option linter.unusedVariables false
set_option linter.unusedSimpArgs false
set_option maxRecDepth 100000

theorem typesmore_walk (w : World) (v0 v1 : Value) (x0 : (Dt.sl 40 TyR).T) (x1 : TyR.T) (h0 : (Par.one (.sl 40 TyR)).Is w v0 x0) (h1 : (Par.agg TyR).Is w v1 x1) :
    Calls Try.prog 9 #[v0, v1] w fun e w' => e = .returned (.bool true) ∧ Ext w w' := by
  obtain ⟨T0, rfl, hc, hn, hT0, ha0⟩ := is_types h0
  obtain ⟨⟨x, xs⟩, rfl, hxs, hxf⟩ := is_type h1
  obtain ⟨l, xl⟩ := x0
  clear h0 h1
  dsimp only at *
  refine vc_9 l x.kind xs x.of _ _ ?_
  simp only [eq_self, false_or, or_false, true_and, and_true, decide_eq_true_eq, decide_eq_false_iff_not, gd_st, gd_sf, exists_eq_left', exists_eq_left, Option.some.injEq, Sl.eta, Nat.reduceLeDiff, Int.reduceLE, Int.reduceLT, Int.reduceEq, Int.reduceNe, Nat.reduceMul, Nat.reduceAdd, Nat.reduceSub, Int.toNat_natCast, beq_iff_eq, bne_iff_ne, beq_eq_false_iff_ne, bne_eq_false_iff_eq, pick_and, pick_or, Bool.and_eq_true, Bool.or_eq_true, Bool.and_eq_false_iff, Bool.or_eq_false_iff, ne_eq, not_false_eq_true, Bool.not_eq_true', Bool.not_eq_false', reduceCtorEq, Nat.le_refl, Nat.zero_mul, Nat.mul_one, Nat.zero_add, Int.reduceToNat, ones, one, add_mk, Decidable.not_not, cond_true, cond_false, true_implies, false_implies, implies_true, Bool.not_true, Bool.not_false]
  intro w1 n1
  have k1 := Blk.new n1
  have x01 := n1.ext
  have hlt1 := k1.lt
  refine ⟨(shown_spec w1).mono ?_⟩
  rintro e w2 ⟨rfl, x12⟩
  have hl0 := hT0.len
  have x02 : Ext w w2 := x01.trans x12
  refine ⟨_, rfl, fun s w' => w' = w2 ∧ ∃ T, Tys w2 s T ∧ ArgT T ∧ T.length ≤ 20, ⟨fun h => ⟨by omega, rfl, _, cut_tys (hT0.ext x02) (by omega), ha0.take 20, by rw [List.length_take]; omega⟩, fun h => ⟨rfl, T0, hT0.ext x02, ha0, by omega⟩⟩, ?_⟩
  rintro _ s w2 ⟨rfl, T, hT, ha, hm⟩
  have hl := hT.len
  refine ⟨(New_spec hT ha.p15).mono ?_⟩
  rintro e w3 ⟨x3, hr⟩
  have hr' : ∃ a, e = .returned (.tuple #[.pointer a, .int .i64 (rightT (T.map (·.1))).2]) ∧ (((rightT (T.map (·.1))).2 ≠ 0 ∧ a = none) ∨ ((rightT (T.map (·.1))).2 = 0 ∧ ∃ g, a = some ⟨g, 0, none⟩ ∧ Table w3 w2.heap.size g (T.map (·.1)))) := by
    rcases hr with ⟨hne, rfl⟩ | ⟨he, g, rfl, ht⟩
    · exact ⟨none, rfl, .inl ⟨hne, rfl⟩⟩
    · exact ⟨_, by rw [he], .inr ⟨he, g, rfl, ht⟩⟩
  clear hr
  obtain ⟨a, rfl, hr⟩ := hr'
  have x03 := x02.trans x3
  have x13 := x12.trans x3
  let L := T.map (·.1)
  let M := L ++ [x]
  have hTM : ∀ y, (T ++ [((x, y) : Tp)]).map (·.1) = M := fun y => by simp [M, L]
  have done : ∀ {w4 w5 : World} {r : Sl}, Ext w3 w4 → Own w5 w4.heap.size 41 3 r (tyFlat (T ++ [(x, xs)])) → Upd (fun k => w4.heap.size ≤ k) w4 w5 →
      CallW Try.prog 16 #[.slice r.a r.n r.c] w5 fun e w6 => ∃ a n, e = .returned (.tuple #[.pointer a, .int .i64 n]) ∧ Upd (fun k => w4.heap.size ≤ k) w5 w6 ∧ (Ext w3 w6 ∧ n = (rightT M).2 ∧ ((n ≠ 0 ∧ a = none) ∨ (n = 0 ∧ ∃ B g, a = some ⟨g, 0, none⟩ ∧ Table w6 B g M))) := by
    intro w4 w5 r x4 o u
    have x45 : Ext w4 w5 := (Ext.refl w4).fresh u fun k hk => hk
    have x5 := x4.trans x45
    have ht : Tys w5 r (T ++ [(x, xs)]) := ⟨o.rd, fun t htm => by
      rcases List.mem_append.1 htm with h | h
      · exact (hT.ext (x3.trans x5)).parts t h
      · rw [List.mem_singleton.1 h]
        exact hxs.ext (x03.trans x5)⟩
    refine ⟨(New_spec ht (fun t htm => ?_)).mono ?_⟩
    · rcases List.mem_append.1 htm with h | h
      · have := ha.parts t h; omega
      · rw [List.mem_singleton.1 h]; dsimp only; omega
    rintro e w6 ⟨x6, hr⟩
    rw [hTM] at hr
    rcases hr with ⟨hne, rfl⟩ | ⟨he, g, rfl, ht⟩
    · exact ⟨_, _, rfl, x6.toS, x5.trans x6, rfl, .inl ⟨hne, rfl⟩⟩
    · exact ⟨_, _, rfl, x6.toS, x5.trans x6, he.symm, .inr ⟨rfl, _, _, rfl, ht⟩⟩
  refine ⟨_, _, rfl, fun a n w' => Ext w3 w' ∧ n = (rightT M).2 ∧ ((n ≠ 0 ∧ a = none) ∨ (n = 0 ∧ ∃ B g, a = some ⟨g, 0, none⟩ ∧ Table w' B g M)), fun w4 q4 => ?_, ?_⟩
  · have x4 := q4.ext
    have k4 := (k1.ext x13).ext x4
    have hlt4 := k4.lt
    have hT4 := hT.ext (x3.trans x4)
    refine ⟨fun k => w4.heap.size ≤ k, x.kind, xs, x.of, rfl, fun w' u => ?_, fun w5 n5 => ⟨n5.ext.toS, ?_, rfl, fun w6 n6 => ⟨n6.ext.toS, ?_⟩⟩, rfl, fun w5 n5 => ⟨n5.ext.toS, fun w6 n6 => ⟨n6.ext.toS, ?_⟩⟩⟩
    · have := k4.upd u (by omega)
      exact ⟨this.cell 0, this.cell 1, this.cell 2⟩
    · have o5 : Own w5 w4.heap.size 41 3 ⟨some ⟨w4.heap.size, 0, none⟩, 0, 0⟩ [] := Own.lit (n := 0) n5 (Nat.le_refl _) rfl (by omega)
      obtain ⟨r, w6, h1, h2, h3, h4⟩ := app1 o5 (hT4.ext n5.ext) (by omega) n5.ext.size
      have h4 := h4.mono (R := fun k => w4.heap.size ≤ k) fun k _ hn e => hn (by omega)
      refine ⟨r, w6, h1, h4, rfl, fun w7 n7 => ⟨n7.ext.toS, ?_⟩⟩
      have z6 := h4.size
      have z5 := n5.ext.size
      have z7 := n7.ext.size
      obtain ⟨r', w8, g1, g2, g3, g4⟩ := app2 (t := (x, xs)) (h3.ext n7.ext) (Blk.new n7) (by omega) (by omega)
      exact ⟨r', w8, g1, g4, done x4 g3 (((n5.ext.toS.then h4).still n7.ext).then g4)⟩
    · have o5 : Own w5 w4.heap.size 41 3 ⟨some ⟨w4.heap.size, 0, none⟩, 0, 0⟩ [] := Own.lit (n := 0) n5 (Nat.le_refl _) rfl (by omega)
      have z5 := n5.ext.size
      have z6 := n6.ext.size
      have b6 := Blk.new n6
      have hb5 := (Blk.new n5).lt
      obtain ⟨r, w7, h1, h2, h3, h4⟩ := app1 (o5.ext n6.ext) ((hT4.ext n5.ext).ext n6.ext) (by omega) (by omega)
      have z7 := h4.size
      have b7 := b6.upd h4 (by omega)
      have h4 := h4.mono (R := fun k => w4.heap.size ≤ k) fun k _ hn e => hn (by omega)
      obtain ⟨r', w8, g1, g2, g3, g4⟩ := app2 (t := (x, xs)) h3 b7 (by omega) (by omega)
      exact ⟨r, w7, h1, h4, r', w8, g1, g4, done x4 g3 (((n5.ext.trans n6.ext).toS.then h4).then g4)⟩
    · have z5 := n5.ext.size
      have z6 := n6.ext.size
      have b5 := (Blk.new n5).ext n6.ext
      have hb5 := (Blk.new n5).lt
      have o6 : Own w6 w4.heap.size 41 3 ⟨some ⟨w5.heap.size, 0, none⟩, 0, 0⟩ [] := Own.lit (n := 0) n6 z5 rfl (by omega)
      obtain ⟨r, w7, h1, h2, h3, h4⟩ := app1 o6 ((hT4.ext n5.ext).ext n6.ext) (by omega) (by omega)
      have z7 := h4.size
      have b7 := b5.upd h4 (by omega)
      have h4 := h4.mono (R := fun k => w4.heap.size ≤ k) fun k _ hn e => hn (by omega)
      obtain ⟨r', w8, g1, g2, g3, g4⟩ := app2 (t := (x, xs)) h3 b7 (by omega) (by omega)
      exact ⟨r, w7, h1, h4, r', w8, g1, g4, done x4 g3 (((n5.ext.trans n6.ext).toS.then h4).then g4)⟩
  · rintro _ a1 n1 w5 ⟨x5, hn1, hr1⟩
    refine ⟨fun b w' => w' = w5 ∧ (b = false → (rightT (T.map (·.1))).2 = 0 ∧ n1 = 0), ⟨fun _ => ⟨fun h => ⟨rfl, fun h1 => ⟨h, by simpa using h1⟩⟩, fun h => ⟨rfl, fun h1 => (by cases h1)⟩⟩, fun h => (by cases h)⟩, ?_⟩
    rintro _ b w5 ⟨rfl, hb⟩
    have xe : Ext w w5 := x03.trans x5
    refine ⟨fun hb1 => ⟨fun _ => ⟨fun h => ⟨fun _ => ⟨fun h1 => ?_, fun h1 => xe⟩, fun h1 => ?_⟩, fun h => ⟨fun h1 => ?_, fun h1 => xe⟩⟩, fun h => (by cases h)⟩, fun hb1 => ?_⟩
    · rcases hr1 with ⟨_, rfl⟩ | ⟨h2, _⟩
      · exact ⟨rfl, xe⟩
      · exact (h1 h2).elim
    · rcases hr with ⟨_, rfl⟩ | ⟨h2, _⟩
      · cases h1
      · exact (h h2).elim
    · rcases hr1 with ⟨_, rfl⟩ | ⟨h2, _⟩
      · exact ⟨rfl, xe⟩
      · exact (h1 h2).elim
    obtain ⟨he, he1⟩ := hb hb1
    have hRL := rightT_ok.1 he
    have hRM := rightT_ok.1 (hn1.symm.trans he1)
    rcases hr with ⟨h2, _⟩ | ⟨_, g, rfl, ta⟩
    · exact (h2 he).elim
    rcases hr1 with ⟨h2, _⟩ | ⟨_, B1, g1, rfl, tb⟩
    · exact (h2 he1).elim
    have ta := ta.ext x5
    have hLl : L.length ≤ 20 := by simpa [L] using hm
    have hMl : M.length = L.length + 1 := by simp [M]
    change Table w5 w2.heap.size g L at ta
    change Right L at hRL
    clear done hb hn1
    refine ⟨(len_spec tb).mono ?_⟩
    rintro e w6 ⟨rfl, rfl⟩
    refine ⟨_, rfl, ⟨(len_spec ta).mono ?_⟩⟩
    rintro e w6 ⟨rfl, rfl⟩
    refine ⟨_, rfl, fun h => (h (by rw [wrap_i64 (by omega) (by omega)]; omega)).elim, fun _ => ⟨fun n w' => 0 ≤ n ∧ n ≤ L.length + 2 ∧ Ext w6 w', fun n _ => (L.length + 2 - n).toNat, ⟨by omega, by omega, .refl _⟩, ?_⟩⟩
    rintro _ n w7 ⟨n0, n1, x7⟩
    refine ⟨(len_spec (ta.ext x7)).mono ?_⟩
    rintro e w8 ⟨rfl, rfl⟩
    refine ⟨_, rfl, fun hlt => ⟨(record_spec (ta.ext x7) n).mono ?_⟩, fun hge => xe.trans x7⟩
    have hn : n < L.length + 2 := by omega
    rintro e w9 ⟨rfl, x9⟩
    refine ⟨_, _, _, _, _, rfl, fun w10 n10 => ⟨rfl, HB.can n10, fun w11 s11 => ?_⟩⟩
    obtain ⟨b1, y11⟩ := HB.made n10 s11
    have x11 := x7.trans (x9.trans y11)
    refine ⟨(record_spec (tb.ext x11) n).mono ?_⟩
    rintro e w12 ⟨rfl, x12'⟩
    refine ⟨_, _, _, _, _, rfl, fun w13 n13 => ⟨rfl, HB.can n13, fun w14 s14 => ?_⟩⟩
    obtain ⟨b2, y14⟩ := HB.made n13 s14
    have z14 := x12'.trans y14
    have x14 := x11.trans z14
    refine ⟨(array_spec (ta.ext x14) n 3).mono ?_⟩
    rintro e w15 ⟨rfl, x15⟩
    refine ⟨_, _, _, _, _, rfl, fun w16 n16 => ⟨rfl, HB.can n16, fun w17 s17 => ?_⟩⟩
    obtain ⟨b3, y17⟩ := HB.made n16 s17
    have z17 := x15.trans y17
    have x17 := x14.trans z17
    refine ⟨(array_spec (tb.ext x17) n 3).mono ?_⟩
    rintro e w18 ⟨rfl, x18⟩
    refine ⟨_, _, _, _, _, rfl, fun w19 n19 => ⟨rfl, HB.can n19, fun w20 s20 => ?_⟩⟩
    obtain ⟨b4, y20⟩ := HB.made n19 s20
    have z20 := x18.trans y20
    have x20 := x17.trans z20
    refine ⟨(kind_spec (ta.ext x20) n).mono ?_⟩
    rintro e w21 ⟨rfl, rfl⟩
    refine ⟨_, rfl, ⟨(kind_spec (tb.ext x20) n).mono ?_⟩⟩
    rintro e w21 ⟨rfl, rfl⟩
    refine ⟨_, rfl, fun _ => ⟨(of_spec (ta.ext x20) n).mono ?_⟩, fun h => (h (kindT_more hn).symm).elim⟩
    rintro e w21 ⟨rfl, rfl⟩
    refine ⟨_, rfl, ⟨(of_spec (tb.ext x20) n).mono ?_⟩⟩
    rintro e w21 ⟨rfl, rfl⟩
    refine ⟨_, rfl, fun _ => ⟨(ref_spec (ta.ext x20) n).mono ?_⟩, fun h => (h (ofT_more hn).symm).elim⟩
    rintro e w21 ⟨rfl, rfl⟩
    refine ⟨_, rfl, ⟨(ref_spec (tb.ext x20) n).mono ?_⟩⟩
    rintro e w21 ⟨rfl, rfl⟩
    refine ⟨_, rfl, fun _ => ⟨(parts_spec (ta.ext x20) n).mono ?_⟩, fun h => (h (refT_more hn).symm).elim⟩
    rintro e w22 ⟨p1, rfl, o22, x22⟩
    refine ⟨_, rfl, ⟨(parts_spec (tb.ext (x20.trans x22)) n).mono ?_⟩⟩
    rintro e w23 ⟨p2, rfl, o23, x23⟩
    have r23 := o23.rd
    rw [partsT_more hn] at r23
    refine ⟨_, rfl, ⟨(equalL_spec (o22.rd.ext x23) r23 (by have := partsT_12 hRL n; omega)).mono ?_⟩⟩
    rintro e w24 ⟨rfl, q24⟩
    have x24 := (x22.trans x23).trans q24.ext
    have B4 := b4.ext x24
    have B3 := b3.ext (z20.trans x24)
    have B2 := b2.ext (z17.trans (z20.trans x24))
    have B1 := b1.ext (z14.trans (z17.trans (z20.trans x24)))
    rw [recordT_more hRL hn] at B2
    rw [arrayT_more hRL hn] at B4
    refine ⟨_, rfl, fun _ => ⟨_, _, _, _, rfl, ⟨B1.cell 0, B1.cell 1, B1.cell 2, B1.cell 3⟩, _, _, _, _, rfl, ⟨B2.cell 0, B2.cell 1, B2.cell 2, B2.cell 3⟩, fun _ => ⟨fun _ => ⟨_, _, _, _, rfl, ⟨B3.cell 0, B3.cell 1, B3.cell 2, B3.cell 3⟩, _, _, _, _, rfl, ⟨B4.cell 0, B4.cell 1, B4.cell 2, B4.cell 3⟩, fun _ => ⟨fun h => (h (by rw [arrayT_more hRL hn])).elim, fun _ => ?_⟩, fun h => (by simp at h)⟩, fun h => (h (by rw [recordT_more hRL hn])).elim⟩, fun h => (by simp at h)⟩, fun h => absurd h (by simp)⟩
    refine ⟨fun m w' => 0 ≤ m ∧ m ≤ n ∧ Ext w6 w', fun m _ => (n - m).toNat, ⟨by omega, by omega, x20.trans x24⟩, ?_⟩
    rintro _ m w25 ⟨m0, m1, x25⟩
    refine ⟨fun hm => ⟨(alike_spec (ta.ext x25) n m).mono ?_⟩, fun hm => ⟨⟨by (first | (rw [wrap_i64 (by omega) (by omega)]; omega) | (dsimp only; rw [wrap_i64 (by omega) (by omega)]; omega) | (dsimp only; omega)), by (first | (rw [wrap_i64 (by omega) (by omega)]; omega) | (dsimp only; rw [wrap_i64 (by omega) (by omega)]; omega) | (dsimp only; omega)), x25⟩, by (first | (rw [wrap_i64 (by omega) (by omega)]; omega) | (dsimp only; rw [wrap_i64 (by omega) (by omega)]; omega) | (dsimp only; omega))⟩⟩
    rintro e w26 ⟨r1, rfl, hr1, x26⟩
    refine ⟨_, rfl, ⟨(alike_spec (tb.ext (x25.trans x26)) n m).mono ?_⟩⟩
    rintro e w27 ⟨r2, rfl, hr2, x27⟩
    refine ⟨_, rfl, fun h => ?_, fun _ => ⟨⟨by (first | (rw [wrap_i64 (by omega) (by omega)]; omega) | (dsimp only; rw [wrap_i64 (by omega) (by omega)]; omega) | (dsimp only; omega)), by (first | (rw [wrap_i64 (by omega) (by omega)]; omega) | (dsimp only; rw [wrap_i64 (by omega) (by omega)]; omega) | (dsimp only; omega)), (x25.trans x26).trans x27⟩, by (first | (rw [wrap_i64 (by omega) (by omega)]; omega) | (dsimp only; rw [wrap_i64 (by omega) (by omega)]; omega) | (dsimp only; omega))⟩⟩
    rw [Alk.more hRL (by omega) (by omega)] at hr2
    exact (h (bool_iff hr1 hr2)).elim
end Go.Proofs.Ytiljdcopkgmcbaa.V
