/-
  The laws of types: Classes.
-/
import Derived.Test.YtiljdcopkgmcbaaLy5
namespace Go.Proofs.Ytiljdcopkgmcbaa.V
open Go Go.RowKit
set_option linter.unusedVariables false
set_option linter.unusedSimpArgs false
set_option maxRecDepth 100000

/-- what is told of alike types -/
theorem alk_told {L : List Ty} (hR : Right L) {a b : Int} (ha : 0 ≤ a) (hb : 0 ≤ b) (h : Alk (allT L) a.toNat b.toNat) :
    kindT L a = kindT L b ∧ (partsT L a).length = (partsT L b).length ∧ (∀ (j : Nat) (p q : Int), (partsT L a)[j]? = some p → (partsT L b)[j]? = some q → 0 ≤ p ∧ 0 ≤ q ∧ Alk (allT L) p.toNat q.toNat) ∧
      (0 ≤ ofT L a → 0 ≤ ofT L b ∧ Alk (allT L) (ofT L a).toNat (ofT L b).toNat) := by
  obtain ⟨x, y, hx, hy, h1, h2, h3, h4⟩ := Bis.alk _ _ h
  obtain ⟨_, a1, a2, a3⟩ := all_at hR ha hx
  obtain ⟨_, b1, b2, b3⟩ := all_at hR hb hy
  have ox := hR.all x (List.mem_of_getElem? hx)
  have oy := hR.all y (List.mem_of_getElem? hy)
  rw [a1, b1, a2, b2, a3, b3]
  refine ⟨h1, h2, fun j p q hp hq => ⟨(ox.parts p (List.mem_of_getElem? hp)).1, (oy.parts q (List.mem_of_getElem? hq)).1, h3 j p q hp hq⟩, fun h => ?_⟩
  by_cases hk : x.kind ≤ 2
  · rw [if_pos hk] at h; exact absurd h (by decide)
  · rw [if_neg hk, if_neg (by omega)]
    exact ⟨oy.of.1, h4 (by omega)⟩
theorem partsT_12 {L : List Ty} (hR : Right L) (n : Int) : (partsT L n).length ≤ 12 := by
  unfold partsT
  split
  · split
    · rename_i x hx
      exact (hR.ok x (List.mem_of_getElem? hx)).few
    · simp
  · simp
theorem typesclasses_walk (w : World) (v0 : Value) (x0 : (Dt.sl 40 TyR).T) (h0 : (Par.one (.sl 40 TyR)).Is w v0 x0) :
    Calls Try.prog 7 #[v0] w fun e w' => e = .returned (.bool true) ∧ Ext w w' := by
  obtain ⟨T0, rfl, hc, hn, hT0, ha0⟩ := is_types h0
  obtain ⟨l, xl⟩ := x0
  clear h0
  dsimp only at *
  refine vc_7 l _ _ ?_
  simp only [eq_self, false_or, or_false, true_and, and_true, decide_eq_true_eq, decide_eq_false_iff_not, gd_st, gd_sf, exists_eq_left', exists_eq_left, Option.some.injEq, Sl.eta, Nat.reduceLeDiff, Int.reduceLE, Int.reduceLT, Int.reduceEq, Int.reduceNe, Nat.reduceMul, Nat.reduceAdd, Nat.reduceSub, Int.toNat_natCast, beq_iff_eq, bne_iff_ne, beq_eq_false_iff_ne, bne_eq_false_iff_eq, pick_and, pick_or, Bool.and_eq_true, Bool.or_eq_true, Bool.and_eq_false_iff, Bool.or_eq_false_iff, ne_eq, not_false_eq_true, Bool.not_eq_true', Bool.not_eq_false', reduceCtorEq, Nat.le_refl, Nat.zero_mul, Nat.mul_one, Nat.zero_add, Int.reduceToNat, ones, one, add_mk, Decidable.not_not, cond_true, cond_false, true_implies, false_implies, implies_true, Bool.not_true, Bool.not_false]
  refine ⟨(shown_spec w).mono ?_⟩
  rintro e w1 ⟨rfl, x1⟩
  have hl0 := hT0.len
  refine ⟨_, rfl, fun s w' => w' = w1 ∧ ∃ T, Tys w1 s T ∧ ArgT T ∧ T.length ≤ 24, ⟨fun h => ⟨by omega, rfl, _, cut_tys (hT0.ext x1) (by omega), ha0.take 24, by rw [List.length_take]; omega⟩, fun h => ⟨rfl, T0, hT0.ext x1, ha0, by omega⟩⟩, ?_⟩
  rintro _ s w1 ⟨rfl, T, hT, ha, hm⟩
  refine ⟨(New_spec hT ha.p15).mono ?_⟩
  rintro e w2 ⟨x2, ⟨hne, rfl⟩ | ⟨he, g, rfl, ht⟩⟩
  · exact ⟨_, _, rfl, fun _ => ⟨fun _ => ⟨fun _ => ⟨rfl, x1.trans x2⟩, fun h => (by cases h)⟩, fun h => (hne h).elim⟩, fun h => (by cases h)⟩
  have hR := rightT_ok.1 he
  have hLl : (T.map (·.1)).length ≤ 24 := by rw [List.length_map]; exact hm
  generalize T.map (·.1) = L at ht hR hLl
  have hal := allT_len L
  refine ⟨_, _, rfl, fun _ => ⟨fun h => (h rfl).elim, fun _ => ⟨(len_spec ht).mono ?_⟩⟩, fun h => (by cases h)⟩
  rintro e w2 ⟨rfl, rfl⟩
  have x02 : Ext w w2 := x1.trans x2
  refine ⟨_, rfl, fun n w' => 0 ≤ n ∧ n ≤ L.length + 2 ∧ Ext w2 w', fun n _ => (L.length + 2 - n).toNat, ⟨by omega, by omega, .refl _⟩, ?_⟩
  rintro _ a w3 ⟨a0, a1, x3⟩
  refine ⟨fun hlt => ⟨(alike_spec (ht.ext x3) a a).mono ?_⟩, fun hge => x02.trans x3⟩
  rintro e w4 ⟨r, rfl, hr, x4⟩
  have x24 := x3.trans x4
  refine ⟨_, rfl, fun h => ?_, fun _ => ⟨fun n w' => 0 ≤ n ∧ n ≤ L.length + 2 ∧ Ext w2 w', fun n _ => (L.length + 2 - n).toNat, ⟨by omega, by omega, x24⟩, ?_⟩⟩
  · rw [h] at hr
    exact absurd (hr.2 ⟨a0, a0, Alk.refl hR.all (by omega)⟩) (by decide)
  rintro _ b w5 ⟨b0, b1, x5⟩
  refine ⟨fun hlb => ⟨(alike_spec (ht.ext x5) a b).mono ?_⟩, fun hge => ⟨⟨by (first | (rw [wrap_i64 (by omega) (by omega)]; omega) | (dsimp only; rw [wrap_i64 (by omega) (by omega)]; omega) | (dsimp only; omega)), by (first | (rw [wrap_i64 (by omega) (by omega)]; omega) | (dsimp only; rw [wrap_i64 (by omega) (by omega)]; omega) | (dsimp only; omega)), x5⟩, by (first | (rw [wrap_i64 (by omega) (by omega)]; omega) | (dsimp only; rw [wrap_i64 (by omega) (by omega)]; omega) | (dsimp only; omega))⟩⟩
  rintro e w6 ⟨r1, rfl, hr1, x6⟩
  have x26 := x5.trans x6
  refine ⟨_, rfl, fun h => ⟨⟨by (first | (rw [wrap_i64 (by omega) (by omega)]; omega) | (dsimp only; rw [wrap_i64 (by omega) (by omega)]; omega) | (dsimp only; omega)), by (first | (rw [wrap_i64 (by omega) (by omega)]; omega) | (dsimp only; rw [wrap_i64 (by omega) (by omega)]; omega) | (dsimp only; omega)), x26⟩, by (first | (rw [wrap_i64 (by omega) (by omega)]; omega) | (dsimp only; rw [wrap_i64 (by omega) (by omega)]; omega) | (dsimp only; omega))⟩, fun h1 => ⟨(parts_spec (ht.ext x26) a).mono ?_⟩⟩
  have hab := (hr1.1 h1).2.2
  obtain ⟨k1, k2, k3, k4⟩ := alk_told hR a0 b0 hab
  rintro e w7 ⟨s, rfl, o7, x7⟩
  have x27 := x26.trans x7
  refine ⟨_, rfl, ⟨(parts_spec (ht.ext x27) b).mono ?_⟩⟩
  rintro e w8 ⟨s1, rfl, o8, x8⟩
  have x28 := x27.trans x8
  refine ⟨_, rfl, ⟨(alike_spec (ht.ext x28) b a).mono ?_⟩⟩
  rintro e w9 ⟨r2, rfl, hr2, x9⟩
  have x29 := x28.trans x9
  refine ⟨_, rfl, fun _ => ⟨(kind_spec (ht.ext x29) a).mono ?_⟩, fun h => ?_⟩
  rotate_left
  · rw [h] at hr2
    exact absurd (hr2.2 ⟨b0, a0, hab.symm⟩) (by decide)
  rintro e w9 ⟨rfl, rfl⟩
  refine ⟨_, rfl, ⟨(kind_spec (ht.ext x29) b).mono ?_⟩⟩
  rintro e w9 ⟨rfl, rfl⟩
  have rs := (o7.rd.ext x8).ext x9
  have rs1 := o8.rd.ext x9
  have ls := rs.leni
  have h12 := partsT_12 hR a
  have ls1 := rs1.leni
  refine ⟨_, rfl, fun _ => ⟨fun h => absurd (show (s.n : Int) = s1.n by omega) h, fun _ => ⟨fun n w' => 0 ≤ n ∧ n ≤ s.n ∧ Ext w9 w', fun n _ => (s.n - n).toNat, ⟨by omega, by omega, .refl _⟩, ?_⟩⟩, fun h => (h k1).elim⟩
  rintro _ i w10 ⟨i0, i1, x10⟩
  have x210 := x29.trans x10
  refine ⟨fun hli => fun w11 q11 => ?_, fun hge => ?_⟩
  · have x11 := x10.trans q11.ext
    obtain ⟨i, rfl⟩ : ∃ j : Nat, i = j := ⟨i.toNat, by omega⟩
    obtain ⟨p, v, hp, hv, hcv⟩ := (rs.ext x11).intl i (by omega)
    obtain ⟨p1, v1, hp1, hv1, hcv1⟩ := (rs1.ext x11).intl i (by omega)
    rw [Nat.mul_one] at hcv hcv1
    obtain ⟨j1, j2, j3⟩ := k3 i v v1 hv hv1
    refine ⟨fun _ => False, i0, hli, p, hp, v, fun w' u => Upd.cell u hcv not_false, i0, by omega, p1, hp1, v1, fun w' u => Upd.cell u hcv1 not_false, ⟨(alike_spec (ht.ext (x29.trans x11)) v v1).mono ?_⟩⟩
    rintro e w12 ⟨r3, rfl, hr3, x12⟩
    refine ⟨_, rfl, fun h => ?_, fun _ => ⟨⟨by (first | (rw [wrap_i64 (by omega) (by omega)]; omega) | (dsimp only; rw [wrap_i64 (by omega) (by omega)]; omega) | (dsimp only; omega)), by (first | (rw [wrap_i64 (by omega) (by omega)]; omega) | (dsimp only; rw [wrap_i64 (by omega) (by omega)]; omega) | (dsimp only; omega)), x11.trans x12⟩, by (first | (rw [wrap_i64 (by omega) (by omega)]; omega) | (dsimp only; rw [wrap_i64 (by omega) (by omega)]; omega) | (dsimp only; omega))⟩⟩
    rw [h] at hr3
    exact absurd (hr3.2 ⟨j1, j2, j3⟩) (by decide)
  · refine ⟨fun w' => Ext w2 w', ⟨(of_spec (ht.ext x210) a).mono ?_⟩, ?_⟩
    · rintro e _ ⟨rfl, rfl⟩
      refine ⟨_, rfl, fun h => ⟨(of_spec (ht.ext x210) a).mono ?_⟩, fun _ => x210⟩
      rintro e _ ⟨rfl, rfl⟩
      refine ⟨_, rfl, ⟨(of_spec (ht.ext x210) b).mono ?_⟩⟩
      rintro e _ ⟨rfl, rfl⟩
      refine ⟨_, rfl, ⟨(alike_spec (ht.ext x210) _ _).mono ?_⟩⟩
      rintro e w11 ⟨r3, rfl, hr3, x11⟩
      refine ⟨_, rfl, fun h' => ?_, fun _ => x210.trans x11⟩
      rw [h'] at hr3
      have := k4 h
      exact absurd (hr3.2 ⟨h, this.1, this.2⟩) (by decide)
    · rintro _ w11 x11
      refine ⟨fun n w' => 0 ≤ n ∧ n ≤ L.length + 2 ∧ Ext w2 w', fun n _ => (L.length + 2 - n).toNat, ⟨by omega, by omega, x11⟩, ?_⟩
      rintro _ c w12 ⟨c0, c1, x12⟩
      refine ⟨fun hlc => ⟨(alike_spec (ht.ext x12) b c).mono ?_⟩, fun hge => ⟨⟨by (first | (rw [wrap_i64 (by omega) (by omega)]; omega) | (dsimp only; rw [wrap_i64 (by omega) (by omega)]; omega) | (dsimp only; omega)), by (first | (rw [wrap_i64 (by omega) (by omega)]; omega) | (dsimp only; rw [wrap_i64 (by omega) (by omega)]; omega) | (dsimp only; omega)), x12⟩, by (first | (rw [wrap_i64 (by omega) (by omega)]; omega) | (dsimp only; rw [wrap_i64 (by omega) (by omega)]; omega) | (dsimp only; omega))⟩⟩
      rintro e w13 ⟨r4, rfl, hr4, x13⟩
      have x213 := x12.trans x13
      refine ⟨_, rfl, fun h => ⟨(alike_spec (ht.ext x213) a c).mono ?_⟩, fun _ => ⟨⟨by (first | (rw [wrap_i64 (by omega) (by omega)]; omega) | (dsimp only; rw [wrap_i64 (by omega) (by omega)]; omega) | (dsimp only; omega)), by (first | (rw [wrap_i64 (by omega) (by omega)]; omega) | (dsimp only; rw [wrap_i64 (by omega) (by omega)]; omega) | (dsimp only; omega)), x213⟩, by (first | (rw [wrap_i64 (by omega) (by omega)]; omega) | (dsimp only; rw [wrap_i64 (by omega) (by omega)]; omega) | (dsimp only; omega))⟩⟩
      rintro e w14 ⟨r5, rfl, hr5, x14⟩
      refine ⟨_, rfl, fun h' => ?_, fun _ => ⟨⟨by (first | (rw [wrap_i64 (by omega) (by omega)]; omega) | (dsimp only; rw [wrap_i64 (by omega) (by omega)]; omega) | (dsimp only; omega)), by (first | (rw [wrap_i64 (by omega) (by omega)]; omega) | (dsimp only; rw [wrap_i64 (by omega) (by omega)]; omega) | (dsimp only; omega)), x213.trans x14⟩, by (first | (rw [wrap_i64 (by omega) (by omega)]; omega) | (dsimp only; rw [wrap_i64 (by omega) (by omega)]; omega) | (dsimp only; omega))⟩⟩
      rw [h'] at hr5
      exact absurd (hr5.2 ⟨a0, c0, hab.trans (hr4.1 h).2.2⟩) (by decide)
end Go.Proofs.Ytiljdcopkgmcbaa.V
