/-
  The order of frames: the plain law. Law FrameMost: the walk.
-/
import Derived.Test.YtfppdkkbekkhbaaDoorFl1
namespace Go.Proofs.YtfppdkkbekkhbaaDoor.V
open Go Go.RowKit
set_option linter.unusedVariables false
set_option linter.unusedSimpArgs false
set_option maxRecDepth 100000

section
variable {xs ys zs : List Int}
theorem bothL_getD (h : xs.length = ys.length) (i : Nat) (hi : i < xs.length) : (bothL xs ys).getD i 0 = if xs.getD i 0 = ys.getD i 0 then xs.getD i 0 else -1 := by
  have hx : xs[i]? = some xs[i] := List.getElem?_eq_getElem hi
  have hy : ys[i]? = some ys[i] := List.getElem?_eq_getElem (by omega)
  rw [getD_of (bothL_at hx hy), getD_of hx, getD_of hy]
theorem ext_getD (h : xs.length = ys.length) (hh : ∀ i, i < xs.length → xs.getD i 0 = ys.getD i 0) : xs = ys :=
  ext_of h fun i hi => by
    have hx : xs[i]? = some xs[i] := List.getElem?_eq_getElem hi
    have hy : ys[i]? = some ys[i] := List.getElem?_eq_getElem (by omega)
    have := hh i hi
    rw [getD_of hx, getD_of hy] at this
    rw [hx, hy, this]
theorem bothL_comm (h : xs.length = ys.length) : bothL xs ys = bothL ys xs := by
  refine ext_getD (by rw [bothL_length h, bothL_length h.symm, h]) fun i hi => ?_
  rw [bothL_length h] at hi
  rw [bothL_getD h i hi, bothL_getD h.symm i (by omega)]
  split
  · rename_i he; rw [if_pos he.symm, he]
  · rename_i he; rw [if_neg fun e => he e.symm]
theorem bothL_self : bothL xs xs = xs := by
  refine ext_getD (bothL_length rfl) fun i hi => ?_
  rw [bothL_length rfl] at hi
  rw [bothL_getD rfl i hi, if_pos rfl]
theorem lessP_refl : LessP xs xs := ⟨rfl, fun i _ => .inr rfl⟩
theorem lessP_trans (h : LessP xs ys) (k : LessP ys zs) : LessP xs zs := by
  refine ⟨h.1.trans k.1, fun i hi => ?_⟩
  have h1 := h.2 i hi
  have h2 := k.2 i (by have := h.1; omega)
  rcases h2 with h2 | h2
  · exact .inl h2
  · rcases h1 with h1 | h1
    · exact .inl (by rw [← h2, h1])
    · exact .inr (by rw [h1, h2])
theorem lessP_anti (h : LessP xs ys) (k : LessP ys xs) : xs = ys := by
  refine ext_getD h.1 fun i hi => ?_
  have h1 := h.2 i hi
  have h2 := k.2 i (by have := h.1; omega)
  rcases h1 with h1 | h1
  · rcases h2 with h2 | h2
    · rw [h1, h2]
    · exact h2.symm
  · exact h1
theorem lessP_left (h : xs.length = ys.length) : LessP xs (bothL xs ys) := by
  refine ⟨(bothL_length h).symm, fun i hi => ?_⟩
  rw [bothL_getD h i hi]
  split
  · exact .inr rfl
  · exact .inl rfl
theorem lessP_right (h : xs.length = ys.length) : LessP ys (bothL xs ys) := by rw [bothL_comm h]; exact lessP_left h.symm
theorem lessP_most (h : xs.length = ys.length) (hx : LessP xs zs) (hy : LessP ys zs) : LessP (bothL xs ys) zs := by
  refine ⟨(bothL_length h).trans hx.1, fun i hi => ?_⟩
  rw [bothL_length h] at hi
  have h1 := hx.2 i hi
  have h2 := hy.2 i (by omega)
  rw [bothL_getD h i hi]
  rcases h1 with h1 | h1
  · exact .inl h1
  · rcases h2 with h2 | h2
    · exact .inl h2
    · exact .inr (by rw [if_pos (h1.trans h2.symm), h1])
theorem bothL_assoc (h : xs.length = ys.length) (k : ys.length = zs.length) : bothL (bothL xs ys) zs = bothL xs (bothL ys zs) := by
  have l1 := bothL_length h; have l2 := bothL_length k
  have l3 : (bothL (bothL xs ys) zs).length = xs.length := by rw [bothL_length (by omega), l1]
  have l4 : (bothL xs (bothL ys zs)).length = xs.length := bothL_length (by omega)
  refine ext_getD (by omega) fun i hi => ?_
  rw [bothL_getD (by omega) i (by omega), bothL_getD h i (by omega), bothL_getD (by omega) i (by omega), bothL_getD k i (by omega)]
  generalize xs.getD i 0 = x
  generalize ys.getD i 0 = y
  generalize zs.getD i 0 = z
  by_cases h1 : x = y
  · subst h1
    by_cases h2 : x = z
    · subst h2; simp
    · by_cases h3 : x = -1
      · simp [h2, h3]
      · simp [h2, h3]
  · by_cases h2 : y = z
    · subst h2; by_cases h3 : x = -1 <;> simp [h1, h3]
    · by_cases h3 : x = -1 <;> simp [h1, h2, h3]
end
theorem Joined.fr {w0 w : World} {s t : Sl} {xs ys xs' ys' : List Int} (j : Joined w0 w s t xs ys xs' ys') (h : JoinOk xs ys xs' ys') (hm : xs.length ≤ 17592186043905) (hk : ys.length ≤ 17592186043905) : Fr2 w s t (bothL xs xs') (bothL ys ys') := by
  have a := j.a; have b := j.b
  rw [if_pos h] at a b
  exact ⟨a.rd, b.rd, by rw [bothL_length h.1]; exact hm, by rw [bothL_length h.2]; exact hk⟩
theorem framemost_walk (w : World) (L : Lay w) (v0 v1 v2 : Value) (x0 x1 x2 : FrR.T) (h0 : (Par.agg FrR).Is w v0 x0) (h1 : (Par.agg FrR).Is w v1 x1) (h2 : (Par.agg FrR).Is w v2 x2) :
    Calls Tryd.prog 6 #[v0, v1, v2] w fun e w' => e = .returned (.bool true) ∧ Ext w w' := by
  obtain ⟨a0, a1, xs, ys, rfl, ha, la0, la1⟩ := is_fr h0
  obtain ⟨b0, b1, xs', ys', rfl, hb, lb0, lb1⟩ := is_fr h1
  obtain ⟨c0, c1, us, vs, rfl, hc, lc0, lc1⟩ := is_fr h2
  refine vc_6 _ _ _ _ _ _ _ _ ?_
  have na0 := ha.a.leni; have na1 := ha.b.leni; have nb0 := hb.a.leni; have nb1 := hb.b.leni
  simp only [eq_self, false_or, or_false, true_and, and_true, decide_eq_true_eq, decide_eq_false_iff_not, gd_st, gd_sf, exists_eq_left', exists_eq_left, Option.some.injEq, Sl.eta, Nat.reduceLeDiff, Int.reduceLE, Int.reduceLT, Int.reduceEq, Int.reduceNe, Nat.reduceMul, Nat.reduceAdd, Nat.reduceSub, Int.toNat_natCast, beq_iff_eq, bne_iff_ne, beq_eq_false_iff_ne, bne_eq_false_iff_eq, pick_and, pick_or, Bool.and_eq_true, Bool.or_eq_true, Bool.and_eq_false_iff, Bool.or_eq_false_iff, ne_eq, not_false_eq_true, Bool.not_eq_true', Bool.not_eq_false', reduceCtorEq, Nat.le_refl, Nat.zero_mul, Nat.mul_one, Nat.zero_add, Int.reduceToNat, ones, one, add_mk, Decidable.not_not, cond_true, cond_false, true_implies, false_implies, implies_true, Bool.not_true, Bool.not_false]
  intro w1 n1 w2 n2 w3 n3
  have x3 := (n1.ext.trans n2.ext).trans n3.ext
  have f3 : FB w3 w.heap.size a0 a1 := (Blk.new n1).ext (n2.ext.trans n3.ext)
  have g3 : FB w3 w1.heap.size b0 b1 := (Blk.new n2).ext n3.ext
  have k3 : FB w3 w2.heap.size c0 c1 := Blk.new n3
  refine ⟨(shown_spec w3).mono ?_⟩
  rintro e w4 ⟨rfl, x4⟩
  have x04 := x3.trans x4
  have f4 := f3.ext x4; have g4 := g3.ext x4; have k4 := k3.ext x4
  refine ⟨_, rfl, a0, a1, rfl, ⟨f4.cell 0, f4.cell 1⟩, b0, b1, rfl, ⟨g4.cell 0, g4.cell 1⟩, ⟨(join_spec (ha.ext x04) (hb.ext x04)).mono ?_⟩⟩
  rintro e w5 ⟨s, t, rfl, j⟩
  refine ⟨s, t, _, rfl, fun w6 n6 => ⟨rfl, FB.can n6, fun w7 s7 => ?_⟩⟩
  obtain ⟨fj7, y7⟩ := FB.made n6 s7
  have x47 := j.x.trans y7
  have x07 := x04.trans x47
  refine ⟨b0, b1, rfl, ⟨(g4.ext x47).cell 0, (g4.ext x47).cell 1⟩, a0, a1, rfl, ⟨(f4.ext x47).cell 0, (f4.ext x47).cell 1⟩, ⟨(join_spec (hb.ext x07) (ha.ext x07)).mono ?_⟩⟩
  rintro e w8 ⟨s', t', rfl, j'⟩
  refine ⟨s', t', _, rfl, fun w9 n9 => ⟨rfl, FB.can n9, fun w10 s10 => ?_⟩⟩
  obtain ⟨fk10, y10⟩ := FB.made n9 s10
  have x710 := j'.x.trans y10
  have x410 := x47.trans x710
  have x010 := x07.trans x710
  refine ⟨a0, a1, rfl, ⟨(f4.ext x410).cell 0, (f4.ext x410).cell 1⟩, a0, a1, rfl, ⟨(f4.ext x410).cell 0, (f4.ext x410).cell 1⟩, ⟨(join_spec (ha.ext x010) (ha.ext x010)).mono ?_⟩⟩
  rintro e w11 ⟨s2, t2, rfl, j2⟩
  refine ⟨s2, t2, _, rfl, fun w12 n12 => ⟨rfl, FB.can n12, fun w13 s13 => ?_⟩⟩
  obtain ⟨fs13, y13⟩ := FB.made n12 s13
  have x1013 := j2.x.trans y13
  have X : Ext w w13 := x010.trans x1013
  have F := f4.ext (x410.trans x1013); have G := g4.ext (x410.trans x1013); have K := k4.ext (x410.trans x1013)
  have FJ := fj7.ext (x710.trans x1013); have FK := fk10.ext x1013
  have A := ha.ext X; have B := hb.ext X; have C := hc.ext X
  have okk : decide (JoinOk xs ys xs' ys') = decide (JoinOk xs' ys' xs ys) := by rw [decide_eq_decide]; exact ⟨fun h => ⟨h.1.symm, h.2.symm⟩, fun h => ⟨h.1.symm, h.2.symm⟩⟩
  have oks : JoinOk xs ys xs ys := ⟨rfl, rfl⟩
  have S2 := (j2.fr oks ha.m ha.k).ext y13
  rw [bothL_self, bothL_self] at S2
  refine ⟨fun v => Ext w13 v, ⟨fun _ => ⟨fun _ => ⟨fun _ => ⟨s2, t2, rfl, ⟨fs13.cell 0, fs13.cell 1⟩, a0, a1, rfl, ⟨F.cell 0, F.cell 1⟩, ⟨(same_spec S2 A).mono ?_⟩⟩, fun h => absurd (decide_eq_true oks) (by rw [h]; decide)⟩, fun h => absurd okk h⟩, fun h => (by cases h)⟩, ?_⟩
  · rintro e w14 ⟨rfl, x14⟩
    refine ⟨_, rfl, fun _ => ⟨a0, (F.ext x14).cell 0, b0, (G.ext x14).cell 0, fun he => ⟨a1, (F.ext x14).cell 1, b1, (G.ext x14).cell 1, fun hne => absurd ?_ hne, fun _ => x14⟩, fun hne => ⟨fun h => absurd (decide_eq_false fun h : JoinOk xs ys xs' ys' => hne (by rw [← na0, ← nb0, h.1])) h, fun _ => x14⟩⟩, fun h => absurd (decide_eq_true (p := xs = xs ∧ ys = ys) ⟨rfl, rfl⟩) (by rw [h]; decide)⟩
    rw [Bool.eq_iff_iff, decide_eq_true_eq, beq_iff_eq]
    exact ⟨fun h => by rw [← na1, ← nb1, h.2], fun h => ⟨by omega, by omega⟩⟩
  rintro _ v xv
  have xv0 := X.trans xv
  refine ⟨fun hno => ?_, fun hok => ?_⟩
  · have hno := of_decide_eq_false hno
    have ja := j.a; have jb := j.b
    rw [if_neg hno] at ja jb
    have ls : s.n = 0 := by have := ja.rd.leni; exact this.symm
    have lt : t.n = 0 := by have := jb.rd.leni; exact this.symm
    exact ⟨s, (FJ.ext xv).cell 0, fun _ => ⟨t, (FJ.ext xv).cell 1, rb (by rw [lt]; rfl), xv0⟩, fun h => absurd (by rw [ls]; rfl) h⟩
  have hok := of_decide_eq_true hok
  have hok' : JoinOk xs' ys' xs ys := ⟨hok.1.symm, hok.2.symm⟩
  have J1 := ((j.fr hok ha.m ha.k).ext y7).ext ((x710.trans x1013).trans xv)
  have J2 := ((j'.fr hok' hb.m hb.k).ext y10).ext (x1013.trans xv)
  have A' := A.ext xv; have B' := B.ext xv; have C' := C.ext xv
  have FJ' := FJ.ext xv; have FK' := FK.ext xv; have F' := F.ext xv; have G' := G.ext xv; have K' := K.ext xv
  refine ⟨s, t, rfl, ⟨FJ'.cell 0, FJ'.cell 1⟩, s', t', rfl, ⟨FK'.cell 0, FK'.cell 1⟩, ⟨(same_spec J1 J2).mono ?_⟩⟩
  rintro e v1 ⟨rfl, y1⟩
  have e1 : decide (bothL xs xs' = bothL xs' xs ∧ bothL ys ys' = bothL ys' ys) = true := decide_eq_true ⟨bothL_comm hok.1, bothL_comm hok.2⟩
  rw [e1]
  refine ⟨_, rfl, fun _ => ⟨a0, a1, rfl, ⟨(F'.ext y1).cell 0, (F'.ext y1).cell 1⟩, s, t, rfl, ⟨(FJ'.ext y1).cell 0, (FJ'.ext y1).cell 1⟩, ⟨(less_spec (A'.ext y1) (J1.ext y1)).mono ?_⟩⟩, fun h => (by cases h)⟩
  rintro e v2 ⟨rfl, y2⟩
  have y12 := y1.trans y2
  have e2 : decide (LessP xs (bothL xs xs') ∧ LessP ys (bothL ys ys')) = true := decide_eq_true ⟨lessP_left hok.1, lessP_left hok.2⟩
  rw [e2]
  refine ⟨_, rfl, fun _ => ⟨b0, b1, rfl, ⟨(G'.ext y12).cell 0, (G'.ext y12).cell 1⟩, s, t, rfl, ⟨(FJ'.ext y12).cell 0, (FJ'.ext y12).cell 1⟩, ⟨(less_spec (B'.ext y12) (J1.ext y12)).mono ?_⟩⟩, fun h => (by cases h)⟩
  rintro e v3 ⟨rfl, y3⟩
  have y13' := y12.trans y3
  have e3 : decide (LessP xs' (bothL xs xs') ∧ LessP ys' (bothL ys ys')) = true := decide_eq_true ⟨lessP_right hok.1, lessP_right hok.2⟩
  rw [e3]
  refine ⟨_, rfl, fun h => (by cases h), fun _ => ⟨a0, a1, rfl, ⟨(F'.ext y13').cell 0, (F'.ext y13').cell 1⟩, c0, c1, rfl, ⟨(K'.ext y13').cell 0, (K'.ext y13').cell 1⟩, ⟨(less_spec (A'.ext y13') (C'.ext y13')).mono ?_⟩⟩⟩
  rintro e v4 ⟨rfl, y4⟩
  have y14 := y13'.trans y4
  refine ⟨_, rfl, fun hA => ⟨b0, b1, rfl, ⟨(G'.ext y14).cell 0, (G'.ext y14).cell 1⟩, c0, c1, rfl, ⟨(K'.ext y14).cell 0, (K'.ext y14).cell 1⟩, ⟨(less_spec (B'.ext y14) (C'.ext y14)).mono ?_⟩⟩, fun _ => xv0.trans y14⟩
  rintro e v5 ⟨rfl, y5⟩
  have y15 := y14.trans y5
  refine ⟨_, rfl, fun hB => ⟨s, t, rfl, ⟨(FJ'.ext y15).cell 0, (FJ'.ext y15).cell 1⟩, c0, c1, rfl, ⟨(K'.ext y15).cell 0, (K'.ext y15).cell 1⟩, ⟨(less_spec (J1.ext y15) (C'.ext y15)).mono ?_⟩⟩, fun _ => xv0.trans y15⟩
  rintro e v6 ⟨rfl, y6⟩
  have hA := of_decide_eq_true hA; have hB := of_decide_eq_true hB
  exact ⟨_, rfl, rb (decide_eq_true ⟨lessP_most hok.1 hA.1 hB.1, lessP_most hok.2 hA.2 hB.2⟩), xv0.trans (y15.trans y6)⟩
end Go.Proofs.YtfppdkkbekkhbaaDoor.V
