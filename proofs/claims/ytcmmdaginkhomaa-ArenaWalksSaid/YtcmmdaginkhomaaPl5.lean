/-
  Law ArenaPlays: the walk.
-/
import Derived.Test.YtcmmdaginkhomaaPl4
namespace Go.Proofs.Ytcmmdaginkhomaa.V
open Go Go.RowKit
set_option linter.unusedVariables false
set_option linter.unusedSimpArgs false
set_option maxRecDepth 100000

abbrev OpR : Rw := .cons (.int .i64) (.cons (.int .i64) (.cons (.int .i64) (.cons (.int .i64) (.cons (.int .u64) (.cons (.sl 8 (.cons (.int .u64) (.nil))) (.cons (.int .i64) (.cons (.int .i64) (.cons (.int .u64) (.cons (.bool) (.nil))))))))))
/-- an element of a script -/
theorem op_at {w : World} {v : Value} {x : (Dt.sl 96 OpR).T} (h : (Dt.sl 96 OpR).Is w v x) : v = .slice x.1.a x.1.n x.1.c ∧ x.1.n ≤ x.1.c ∧ x.1.n ≤ 1466015503658 ∧
    ∀ i, i < x.1.n → ∃ (p : Addr) (o : OpV) (cs : List Nat), x.1.a = some p ∧ o.Ok w cs ∧ ∀ w', Ext w w' →
      w'.cell? ((p.add (i * 10)).add 0) = some (.int .i64 o.k) ∧ w'.cell? ((p.add (i * 10)).add 1) = some (.int .i64 o.h.k) ∧ w'.cell? ((p.add (i * 10)).add 2) = some (.int .i64 o.h.t) ∧
      w'.cell? ((p.add (i * 10)).add 3) = some (.int .i64 o.h.l) ∧ w'.cell? ((p.add (i * 10)).add 4) = some (.int .u64 (o.h.r : Nat)) ∧ w'.cell? ((p.add (i * 10)).add 5) = some (.slice o.c.a o.c.n o.c.c) ∧
      w'.cell? ((p.add (i * 10)).add 6) = some (.int .i64 o.R) ∧ w'.cell? ((p.add (i * 10)).add 7) = some (.int .i64 o.I) ∧ w'.cell? ((p.add (i * 10)).add 8) = some (.int .u64 (o.x : Nat)) ∧ w'.cell? ((p.add (i * 10)).add 9) = some (.bool o.z) := by
  have h' := h
  unfold Dt.Is at h'
  obtain ⟨h1, h2, h3, h4, h5, h6, h7⟩ := h'
  rw [reach_eq] at h5
  refine ⟨h1, h3, by omega, fun i hi => ?_⟩
  obtain ⟨y, hy⟩ : ∃ y, x.2[i]? = some y := ⟨_, List.getElem?_eq_getElem (by omega)⟩
  obtain ⟨p, vs, hp, ha, hl, hi'⟩ := h7 i y hy
  simp only [Rw.Is] at hi'
  obtain ⟨_, _, rfl, i0, _, _, rfl, i1, _, _, rfl, i2, _, _, rfl, i3, _, _, rfl, i4, _, _, rfl, i5, _, _, rfl, i6, _, _, rfl, i7, _, _, rfl, i8, _, _, rfl, i9, rfl⟩ := hi'
  obtain ⟨rfl, j0⟩ : _ = _ ∧ _ := by simpa only [Dt.Is] using i0
  obtain ⟨rfl, j1⟩ : _ = _ ∧ _ := by simpa only [Dt.Is] using i1
  obtain ⟨rfl, j2⟩ : _ = _ ∧ _ := by simpa only [Dt.Is] using i2
  obtain ⟨rfl, j3⟩ : _ = _ ∧ _ := by simpa only [Dt.Is] using i3
  obtain ⟨rfl, j4⟩ : _ = _ ∧ _ := by simpa only [Dt.Is] using i4
  obtain ⟨rfl, c1, c2, c3, cs, c4, c5⟩ := is_words i5
  obtain ⟨rfl, j6⟩ : _ = _ ∧ _ := by simpa only [Dt.Is] using i6
  obtain ⟨rfl, j7⟩ : _ = _ ∧ _ := by simpa only [Dt.Is] using i7
  obtain ⟨rfl, j8⟩ : _ = _ ∧ _ := by simpa only [Dt.Is] using i8
  obtain rfl : _ = _ := by simpa only [Dt.Is] using i9
  have b0 := wf_i64 j0; have b4 := wf_u64 j4; have b6 := wf_i64 j6; have b7 := wf_i64 j7; have b8 := wf_u64 j8
  refine ⟨p, ⟨y.1, ⟨y.2.1, y.2.2.1, y.2.2.2.1, Int.toNat y.2.2.2.2.1⟩, y.2.2.2.2.2.1.1, y.2.2.2.2.2.2.1, y.2.2.2.2.2.2.2.1, Int.toNat y.2.2.2.2.2.2.2.2.1, y.2.2.2.2.2.2.2.2.2.1⟩, cs, hp, ⟨b0, b6, b7, by dsimp only; omega, c4, by have := c4.lenu; omega, c5⟩, fun w' u => ?_⟩
  have ha := ha.upd u not_false
  have e4 : ((Int.toNat y.2.2.2.2.1 : Nat) : Int) = y.2.2.2.2.1 := Int.toNat_of_nonneg b4.1
  have e8 : ((Int.toNat y.2.2.2.2.2.2.2.2.1 : Nat) : Int) = y.2.2.2.2.2.2.2.2.1 := Int.toNat_of_nonneg b8.1
  dsimp only
  rw [e4, e8]
  exact ⟨ha 0 _ rfl, ha 1 _ rfl, ha 2 _ rfl, ha 3 _ rfl, ha 4 _ rfl, ha 5 _ rfl, ha 6 _ rfl, ha 7 _ rfl, ha 8 _ rfl, ha 9 _ rfl⟩
theorem begun_spec {w0 w : World} (x0 : Ext w0 w) {c : Int} (hc : -9223372036854775808 ≤ c ∧ c ≤ 9223372036854775807) :
    Calls Try.prog 34 #[.int .i64 c] w fun e w' => ∃ p b1 g1 b2 g2 n, e = .returned (.tuple #[.pointer (some ⟨p, 0, none⟩), .bool true]) ∧ Pl w0 w' p b1 g1 b2 g2 (newA n) (newA n) ⟨none, 0, 0⟩ [] := by
  refine vc_34 _ _ _ ?_
  simp only [eq_self, false_or, or_false, true_and, and_true, decide_eq_true_eq, decide_eq_false_iff_not, gd_st, gd_sf, exists_eq_left', exists_eq_left, Option.some.injEq, Sl.eta, Nat.reduceLeDiff, Int.reduceLE, Int.reduceLT, Int.reduceEq, Int.reduceNe, Nat.reduceMul, Nat.reduceAdd, Nat.reduceSub, Int.toNat_natCast, beq_iff_eq, bne_iff_ne, beq_eq_false_iff_ne, bne_eq_false_iff_eq, pick_and, pick_or, Bool.and_eq_true, Bool.or_eq_true, Bool.and_eq_false_iff, Bool.or_eq_false_iff, ne_eq, not_false_eq_true, Bool.not_eq_true', Bool.not_eq_false', reduceCtorEq, Nat.le_refl, Nat.zero_mul, Nat.mul_one, Nat.zero_add, Int.reduceToNat, ones, one, add_mk, Decidable.not_not, cond_true, cond_false, true_implies, false_implies, implies_true, Bool.not_true, Bool.not_false]
  refine ⟨(pick_spec c 400 w hc.1 hc.2 (by decide)).mono ?_⟩
  rintro e w1 ⟨rfl, rfl⟩
  have hp := pk_lt (c := c) (n := 400) (by decide)
  have z0 := x0.size
  refine ⟨_, rfl, ⟨(new_spec (n := pk c 400) (by omega) _).mono ?_⟩⟩
  rintro e w2 ⟨x2, ⟨hno, _⟩ | ⟨k, b1, g1, hk, hk1, rfl, hb1, hg1, a1⟩⟩
  · omega
  refine ⟨_, _, rfl, ⟨(rnew_spec (n := pk c 400) (by omega) w2).mono ?_⟩⟩
  rintro e w3 ⟨x3, ⟨hno, _⟩ | ⟨k', b2, g2, hk', hk1', rfl, hb2, hg2, a2⟩⟩
  · omega
  obtain rfl : k' = k := by omega
  have z2 := x2.size; have z3 := x3.size
  have hb1' := a1.ws.lt
  refine ⟨_, _, rfl, fun _ => ⟨fun _ => ⟨fun _ => ⟨fun h => absurd rfl h, fun _ => ⟨by simp [len', wr], fun w4 n4 => ?_⟩⟩, fun h => absurd rfl h⟩, fun h => (by cases h)⟩, fun h => (by cases h)⟩
  exact ⟨_, b1, g1, b2, g2, k', rfl, (a1.ext x3).ext n4.ext, a2.ext n4.ext, Blk.new n4, Own.nil _ _ _ _, fun x h => (by cases h), by omega, fun q h => (by cases h), by omega, ((x0.trans x2).trans x3).trans n4.ext⟩
theorem arenaplays_walk (w : World) (v0 v1 : Value) (x0 : Int) (x1 : (Par.one (.sl 96 OpR)).T) (h0 : (Par.one (.int .i64)).Is w v0 x0) (h1 : (Par.one (.sl 96 OpR)).Is w v1 x1) :
    Calls Try.prog 9 #[v0, v1] w fun e w' => e = .returned (.bool true) ∧ Ext w w' := by
  obtain ⟨rfl, r0⟩ := h0
  obtain ⟨rfl, hc, hl, hop⟩ := op_at h1
  have r0 := wf_i64 r0
  obtain ⟨script, ls⟩ := x1
  dsimp only at *
  refine vc_9 x0 script _ _ ?_
  simp only [eq_self, false_or, or_false, true_and, and_true, decide_eq_true_eq, decide_eq_false_iff_not, gd_st, gd_sf, exists_eq_left', exists_eq_left, Option.some.injEq, Sl.eta, Nat.reduceLeDiff, Int.reduceLE, Int.reduceLT, Int.reduceEq, Int.reduceNe, Nat.reduceMul, Nat.reduceAdd, Nat.reduceSub, Int.toNat_natCast, beq_iff_eq, bne_iff_ne, beq_eq_false_iff_ne, bne_eq_false_iff_eq, pick_and, pick_or, Bool.and_eq_true, Bool.or_eq_true, Bool.and_eq_false_iff, Bool.or_eq_false_iff, ne_eq, not_false_eq_true, Bool.not_eq_true', Bool.not_eq_false', reduceCtorEq, Nat.le_refl, Nat.zero_mul, Nat.mul_one, Nat.zero_add, Int.reduceToNat, ones, one, add_mk, Decidable.not_not, cond_true, cond_false, true_implies, false_implies, implies_true, Bool.not_true, Bool.not_false]
  refine ⟨(shown_spec w).mono ?_⟩
  rintro e w1 ⟨rfl, x01⟩
  refine ⟨_, rfl, ⟨(begun_spec x01 r0).mono ?_⟩⟩
  rintro e w2 ⟨p, b1, g1, b2, g2, n, rfl, h2⟩
  refine ⟨_, _, rfl, fun _ => ⟨fun h => (by cases h), fun _ => ?_⟩, fun h => (by cases h)⟩
  refine ⟨fun n w' => ∃ j : Nat, n = j ∧ j ≤ script.n ∧ ∃ A s rs, Pl w w' p b1 g1 b2 g2 A A s rs ∧ rs.length ≤ j, fun n _ => (script.n - n).toNat, ⟨0, rfl, by omega, _, _, _, h2, Nat.le_refl _⟩, ?_⟩
  rintro _ n w3 ⟨j, rfl, hj, A, s, rs, h3, hrs⟩
  have ej : IntKind.i64.wrap ((j : Int) + 1) = ((j + 1 : Nat) : Int) := by rw [wrap_i64 (by omega) (by omega)]; omega
  refine ⟨fun hlt => ?_, fun hge => ?_⟩
  · obtain ⟨q, o, cs, hq, ok, hcells⟩ := hop j (by omega)
    refine ⟨by omega, hlt, q, hq, _, _, _, _, _, o.c, _, _, _, _, rfl, by rw [Int.toNat_natCast]; exact hcells _ h3.x, ⟨(step_spec h3 ok (by omega)).mono ?_⟩⟩
    rintro e w4 ⟨rfl, A', s', rs', h4, hrs', _⟩
    rw [ej]
    exact ⟨_, rfl, fun h => (by cases h), fun _ => ⟨⟨j + 1, rfl, by omega, A', s', rs', h4, by omega⟩, by dsimp only; omega⟩⟩
  have hn := h3.a1.ok.n; have hlen := h3.a1.ok.len
  refine ⟨fun n w' => ∃ j : Nat, n = j ∧ j ≤ A.ws.length ∧ Pl w w' p b1 g1 b2 g2 A A s rs, fun n _ => (A.ws.length - n).toNat, ⟨0, rfl, by omega, h3⟩, ?_⟩
  rintro _ n w4 ⟨i, rfl, hi, h4⟩
  have ei : IntKind.i64.wrap ((i : Int) + 1) = ((i + 1 : Nat) : Int) := by rw [wrap_i64 (by omega) (by omega)]; omega
  rw [ei]
  let sl : Sl := ⟨some ⟨b2, 0, none⟩, A.ws.length, A.ws.length⟩
  refine ⟨_, rfl, _, h4.hd.cell 1, _, rfl, sl, h4.a2.hd.cell 1, fun hlt => ?_, fun hge w5 q5 => ?_⟩
  · have hlt' : i < A.ws.length := by have : ((i : Nat) : Int) < ((A.ws.length : Nat) : Int) := hlt; omega
    refine ⟨_, rfl, _, h4.hd.cell 0, ⟨(word_spec h4.a1 _).mono ?_⟩⟩
    rintro e w5 ⟨rfl, rfl⟩
    have ew : wordO A (i : Int) = (A.ws.getD i 0, true) := by unfold wordO; rw [if_pos (by omega), Int.toNat_natCast]
    rw [ew]
    refine ⟨_, _, rfl, fun _ => ⟨_, rfl, _, h4.hd.cell 1, _, rfl, sl, h4.a2.hd.cell 1, by omega, hlt, _, rfl, _, by rw [Int.toNat_natCast]; exact h4.a2.wordAt hlt', fun hne => absurd rfl hne, fun _ => ⟨⟨i + 1, rfl, by omega, h4⟩, by dsimp only; omega⟩⟩, fun h => (by cases h)⟩
  · have h5 := h4.ext q5.ext
    refine ⟨fun _ => False, _, rfl, _, fun w' u => (h5.hd.ext u).cell 0, _, rfl, _, fun w' u => (h5.hd.ext u).cell 1, _, rfl, sl, fun w' u => (h5.a2.hd.ext u).cell 1, ⟨(word_spec h5.a1 _).mono ?_⟩⟩
    rintro e w6 ⟨rfl, rfl⟩
    have ew : wordO A ((A.ws.length : Nat) : Int) = (0, false) := by unfold wordO; rw [if_neg (by omega)]
    have ew' : wordO A ((sl.n : Nat) : Int) = (0, false) := ew
    rw [ew']
    exact ⟨_, _, rfl, rfl, h5.x⟩
end Go.Proofs.Ytcmmdaginkhomaa.V
