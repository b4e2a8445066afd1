/-
  Law FrameNothing: the walk, where the arguments' bulk is bounded.
-/
import Derived.Test.YtfppdkkbekkhbaaDoorFx2
import Derived.Test.YtfppdkkbekkhbaaDoorFm1
namespace Go.Proofs.YtfppdkkbekkhbaaDoor.V
open Go Go.RowKit
set_option linter.unusedVariables false
set_option linter.unusedSimpArgs false
set_option maxRecDepth 100000

def nots (n : Nat) : List Int := List.replicate n (-1)
theorem nots_len (n : Nat) : (nots n).length = n := List.length_replicate
theorem nots_getD {n i : Nat} (h : i < n) : (nots n).getD i 0 = -1 := by unfold nots; simp [List.getD, h]
theorem both_nots {xs : List Int} : bothL xs (nots xs.length) = nots xs.length := by
  refine ext_getD (by rw [bothL_length (nots_len _).symm, nots_len]) fun i hi => ?_
  rw [bothL_length (nots_len _).symm] at hi
  rw [bothL_getD (nots_len _).symm i hi, nots_getD hi]
  split
  · assumption
  · rfl
theorem less_nots {xs : List Int} : LessP xs (nots xs.length) := ⟨(nots_len _).symm, fun i hi => .inl (nots_getD hi)⟩
theorem nots_less {xs : List Int} : LessP (nots xs.length) xs ↔ nots xs.length = xs := by
  refine ⟨fun h => ext_getD h.1 fun i hi => ?_, fun h => by rw [h]; exact lessP_refl⟩
  rw [nots_len] at hi
  rcases h.2 i (by rw [nots_len]; exact hi) with h1 | h1
  · rw [nots_getD hi, h1]
  · exact h1
theorem nots_itoas (w : World) (n : Nat) : Itoas w (nots n) := itoas_small fun x hx => .inl (List.eq_of_mem_replicate hx)
theorem nots_ok (n : Nat) : Ok64 (nots n) := fun x hx => by rw [List.eq_of_mem_replicate hx]; decide
theorem nots_snoc (n : Nat) : nots (n + 1) = nots n ++ [-1] := List.replicate_succ'
theorem textA_nots (n : Nat) : mkB (textA (nots n)) ++ ⟨#[45, 32]⟩ = mkB (textA (nots (n + 1))) := by
  rw [show (⟨#[45, 32]⟩ : ByteArray) = mkB [45, 32] from rfl, mkB_append, nots_snoc]
  unfold textA
  rw [List.map_append, List.flatten_append]
  rfl
theorem textZ_nots (l : List UInt8) (n : Nat) : mkB (l ++ textZ (nots n)) ++ ⟨#[32, 45]⟩ = mkB (l ++ textZ (nots (n + 1))) := by
  rw [show (⟨#[32, 45]⟩ : ByteArray) = mkB [32, 45] from rfl, mkB_append, nots_snoc]
  unfold textZ
  rw [List.map_append, List.flatten_append, List.append_assoc]
  rfl
theorem framenothing_walk (w : World) (L : Lay w) (v0 : Value) (x0 : FrR.T) (h0 : (Par.agg FrR).Is w v0 x0) (hbk : (Par.agg FrR).bulk x0 + 0 ≤ 1048576) :
    Calls Tryd.prog 8 #[v0] w fun e w' => e = .returned (.bool true) ∧ Ext w w' := by
  obtain ⟨f0, f1, xs, ys, rfl, hf, okx, oky, hl⟩ := is_frb h0 hbk
  refine vc_8 _ _ _ _ ?_
  have l0 := hf.a.leni; have l1 := hf.b.leni
  simp only [eq_self, false_or, or_false, true_and, and_true, decide_eq_true_eq, decide_eq_false_iff_not, gd_st, gd_sf, exists_eq_left', exists_eq_left, Option.some.injEq, Sl.eta, Nat.reduceLeDiff, Int.reduceLE, Int.reduceLT, Int.reduceEq, Int.reduceNe, Nat.reduceMul, Nat.reduceAdd, Nat.reduceSub, Int.toNat_natCast, beq_iff_eq, bne_iff_ne, beq_eq_false_iff_ne, bne_eq_false_iff_eq, pick_and, pick_or, Bool.and_eq_true, Bool.or_eq_true, Bool.and_eq_false_iff, Bool.or_eq_false_iff, ne_eq, not_false_eq_true, Bool.not_eq_true', Bool.not_eq_false', reduceCtorEq, Nat.le_refl, Nat.zero_mul, Nat.mul_one, Nat.zero_add, Int.reduceToNat, ones, one, add_mk, Decidable.not_not, cond_true, cond_false, true_implies, false_implies, implies_true, Bool.not_true, Bool.not_false]
  intro w1 n1
  have z1 := n1.size
  refine ⟨(shown_spec w1).mono ?_⟩
  rintro e w2 ⟨rfl, x2⟩
  have x02 := n1.ext.trans x2
  have g2 : FB w2 w.heap.size f0 f1 := (Blk.new n1).ext x2
  have z2 := x2.size
  refine ⟨_, rfl, fun w3 n3 => ?_⟩
  have g3 := g2.ext n3.ext
  have b3 : FB w3 w2.heap.size ⟨none, 0, 0⟩ ⟨none, 0, 0⟩ := Blk.new n3
  have z3 := n3.size
  have x03 := x02.trans n3.ext
  refine ⟨fun b n w' => ∃ (i : Nat) (c : Sl), n = i ∧ i ≤ xs.length ∧ b = mkB (textA (nots i)) ∧ FB w' w2.heap.size c ⟨none, 0, 0⟩ ∧ Own w' w3.heap.size 3 1 c (iv (nots i)) ∧ FB w' w.heap.size f0 f1 ∧ Ext w w' ∧ w3.heap.size ≤ w'.heap.size, fun _ n _ => (xs.length - n).toNat,
    ⟨0, ⟨none, 0, 0⟩, rfl, Nat.zero_le _, rfl, b3, Own.nil _ _ _ _, g3, x03, Nat.le_refl _⟩, ?_⟩
  rintro _ b n w4 ⟨i, c, rfl, hi, rfl, b4, o4, g4, x4, z4⟩
  have ei : IntKind.i64.wrap ((i : Int) + 1) = ((i + 1 : Nat) : Int) := by rw [wrap_i64 (by omega) (by omega)]; omega
  rw [ei]
  have hA := textA_len (nots_ok i)
  rw [nots_len] at hA
  refine ⟨f0, g4.cell 0, fun hlt => ⟨c, b4.cell 0, fun w5 n5 => ?_⟩, fun hge => ?_⟩
  · obtain ⟨r6, w6, hr6, hn6, o6, u6, c6⟩ := push1 o4 z4 (by rw [nots_len]; omega) n5
    have keep : ∀ {g T : Nat} {cs : List Value}, Blk w4 g T cs → T ≠ 3 → Blk w6 g T cs := fun b hT => b.upd u6 (by rintro ⟨q, hq, he⟩; exact own_blk_ne o4 b (fun h => hT h.symm) q hq he.symm)
    have b6 := keep b4 (by decide); have g6 := keep g4 (by decide)
    have x6 : Ext w w6 := x4.fresh u6 (by rintro i ⟨q, hq, rfl⟩; have := (o4.base q hq).1; omega)
    refine ⟨r6, w6, hr6, b6.canSet 0 (by simp), fun w7 s7 => ⟨by rw [mkB_size]; have : (⟨#[45, 32]⟩ : ByteArray).size = 2 := rfl; omega, ⟨i + 1, r6, rfl, by omega, textA_nots i, s7.blk1 b6, ?_, g6.upd s7.upd (by dsimp only; omega), x6.fresh s7.upd (by rintro i rfl; dsimp only; omega), by have := u6.size; have := s7.size; omega⟩, by dsimp only; omega⟩⟩
    rw [nots_snoc]
    exact o6.upd s7.upd (own_blk_ne o6 b6 (by decide))
  have hi' : i = xs.length := by omega
  subst hi'
  have e124 : (⟨#[124]⟩ : ByteArray) = mkB [124] := rfl
  refine ⟨by rw [e124, mkB_size, mkB_size]; simp; omega, fun b n w' => ∃ (j : Nat) (d : Sl), n = j ∧ j ≤ ys.length ∧ b = mkB ((textA (nots xs.length) ++ [124]) ++ textZ (nots j)) ∧ FB w' w2.heap.size c d ∧ Own w' w3.heap.size 3 1 c (iv (nots xs.length)) ∧ Own w' w3.heap.size 3 1 d (iv (nots j)) ∧ Apart c d ∧ FB w' w.heap.size f0 f1 ∧ Ext w w' ∧ w3.heap.size ≤ w'.heap.size, fun _ n _ => (ys.length - n).toNat,
    ⟨0, ⟨none, 0, 0⟩, rfl, Nat.zero_le _, by rw [e124, mkB_append]; simp [textZ, nots], b4, o4, Own.nil _ _ _ _, fun p q hp hq => (by cases hq), g4, x4, z4⟩, ?_⟩
  rintro _ b n w5 ⟨j, d, rfl, hj, rfl, b5, o5, d5, ap, g5, x5, z5⟩
  have ej : IntKind.i64.wrap ((j : Int) + 1) = ((j + 1 : Nat) : Int) := by rw [wrap_i64 (by omega) (by omega)]; omega
  rw [ej]
  have hZ := textZ_len (nots_ok j)
  rw [nots_len] at hZ
  refine ⟨f1, g5.cell 1, fun hlt => ⟨d, b5.cell 1, fun w6 n6 => ?_⟩, fun hge => ?_⟩
  · obtain ⟨r7, w7, hr7, hn7, o7, u7, c7⟩ := push1 d5 z5 (by rw [nots_len]; omega) n6
    have keep : ∀ {g T : Nat} {cs : List Value}, Blk w5 g T cs → T ≠ 3 → Blk w7 g T cs := fun b hT => b.upd u7 (by rintro ⟨q, hq, he⟩; exact own_blk_ne d5 b (fun h => hT h.symm) q hq he.symm)
    have b7 := keep b5 (by decide); have g7 := keep g5 (by decide)
    have x7 : Ext w w7 := x5.fresh u7 (by rintro i ⟨q, hq, rfl⟩; have := (d5.base q hq).1; omega)
    have oc7 := o5.upd u7 (fun q hq ⟨q', hq', he⟩ => ap q q' hq hq' he)
    have ap7 : Apart c r7 := by
      intro q q' hq hq' he
      rcases c7 q' hq' with h | h
      · exact ap q q' hq h he
      · have := (o5.base q hq).2; omega
    refine ⟨r7, w7, hr7, b7.canSet 1 (by simp), fun w8 s8 => ⟨by rw [mkB_size, List.length_append, List.length_append]; have : (⟨#[32, 45]⟩ : ByteArray).size = 2 := rfl; simp; omega, ⟨j + 1, r7, rfl, by omega, textZ_nots _ j, s8.blk1 b7, oc7.upd s8.upd (own_blk_ne oc7 b7 (by decide)), ?_, ap7, g7.upd s8.upd (by dsimp only; omega), x7.fresh s8.upd (by rintro i rfl; dsimp only; omega), by have := u7.size; have := s8.size; omega⟩, by dsimp only; omega⟩⟩
    rw [nots_snoc]
    exact o7.upd s8.upd (own_blk_ne o7 b7 (by decide))
  have hj' : j = ys.length := by omega
  subst hj'
  have N5 : Fr2 w5 c d (nots xs.length) (nots ys.length) := ⟨o5.rd, d5.rd, by rw [nots_len]; omega, by rw [nots_len]; omega⟩
  refine ⟨f0, f1, rfl, ⟨g5.cell 0, g5.cell 1⟩, c, d, rfl, ⟨b5.cell 0, b5.cell 1⟩, ⟨(join_spec (hf.ext x5) N5).mono ?_⟩⟩
  rintro e w6 ⟨s, t, rfl, jd⟩
  have hok : JoinOk xs ys (nots xs.length) (nots ys.length) := ⟨(nots_len _).symm, (nots_len _).symm⟩
  refine ⟨s, t, _, rfl, fun w7 n7 => ⟨rfl, FB.can n7, fun w8 s8 w9 q9 => ?_⟩⟩
  obtain ⟨fj8, y8⟩ := FB.made n7 s8
  have J9 := ((jd.fr hok hf.m hf.k).ext y8).ext q9.ext
  rw [both_nots, both_nots] at J9
  have x59 := (jd.x.trans y8).trans q9.ext
  have x09 := x5.trans x59
  have F9 := hf.ext x09; have N9 := N5.ext x59
  have g9 := g5.ext x59; have b9 := b5.ext x59; have fj9 := fj8.ext q9.ext
  refine ⟨fun _ => False, fun _ => ⟨fun _ => ⟨s, t, rfl, fun v u => ⟨(fj9.ext u).cell 0, (fj9.ext u).cell 1⟩, c, d, rfl, fun v u => ⟨(b9.ext u).cell 0, (b9.ext u).cell 1⟩, ⟨(same_spec J9 N9).mono ?_⟩⟩, fun h => absurd (decide_eq_true hok) (by rw [h]; decide)⟩, fun h => (by cases h)⟩
  rintro e w10 ⟨rfl, x10⟩
  refine ⟨_, rfl, fun _ => ⟨f0, f1, rfl, fun v u => ⟨((g9.ext x10).ext u).cell 0, ((g9.ext x10).ext u).cell 1⟩, c, d, rfl, fun v u => ⟨((b9.ext x10).ext u).cell 0, ((b9.ext x10).ext u).cell 1⟩, ⟨(less_spec (F9.ext x10) (N9.ext x10)).mono ?_⟩⟩, fun h => absurd (decide_eq_true (p := nots xs.length = nots xs.length ∧ nots ys.length = nots ys.length) ⟨rfl, rfl⟩) (by rw [h]; decide)⟩
  rintro e w11 ⟨rfl, x11⟩
  have y11 := x10.trans x11
  refine ⟨_, rfl, fun _ => ⟨c, d, rfl, fun v u => ⟨((b9.ext y11).ext u).cell 0, ((b9.ext y11).ext u).cell 1⟩, f0, f1, rfl, fun v u => ⟨((g9.ext y11).ext u).cell 0, ((g9.ext y11).ext u).cell 1⟩, f0, f1, rfl, fun v u => ⟨((g9.ext y11).ext u).cell 0, ((g9.ext y11).ext u).cell 1⟩, c, d, rfl, fun v u => ⟨((b9.ext y11).ext u).cell 0, ((b9.ext y11).ext u).cell 1⟩, ⟨(less_spec (N9.ext y11) (F9.ext y11)).mono ?_⟩⟩, fun h => absurd (decide_eq_true (p := LessP xs (nots xs.length) ∧ LessP ys (nots ys.length)) ⟨less_nots, less_nots⟩) (by rw [h]; decide)⟩
  rintro e w12 ⟨rfl, x12⟩
  have y12 := y11.trans x12
  refine ⟨_, rfl, x12, ⟨(same_spec (F9.ext y12) (N9.ext y12)).mono ?_⟩⟩
  rintro e w13 ⟨rfl, x13⟩
  have y13 := y12.trans x13
  have lt := textT_len (nots_ok xs.length) (nots_ok ys.length)
  rw [nots_len, nots_len] at lt
  refine ⟨_, rfl, fun _ => ⟨s, t, rfl, fun v u => ⟨((fj9.ext y13).ext u).cell 0, ((fj9.ext y13).ext u).cell 1⟩, ⟨(text_spec (J9.ext y13) (nots_itoas _ _) (nots_itoas _ _) (by rw [nots_len, nots_len]; omega) (by omega)).mono ?_⟩⟩, fun h => absurd ?_ h⟩
  · rintro e w14 ⟨rfl, x14⟩
    refine ⟨_, rfl, x14, rb ?_, x09.trans (y13.trans x14)⟩
    rw [textT_eq, ← List.append_assoc]
    unfold mkB
    simp
  · rw [decide_eq_decide]
    exact ⟨fun h => ⟨(nots_less.1 h.1).symm, (nots_less.1 h.2).symm⟩, fun h => ⟨nots_less.2 h.1.symm, nots_less.2 h.2.symm⟩⟩
end Go.Proofs.YtfppdkkbekkhbaaDoor.V
