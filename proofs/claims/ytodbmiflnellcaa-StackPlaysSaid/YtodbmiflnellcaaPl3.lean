/-
  Law StackPlays: the walk.
-/
import Derived.Test.YtodbmiflnellcaaPl2
import Derived.Test.YtodbmiflnellcaaVcD
namespace Go.Proofs.Ytodbmiflnellcaa.V
open Go Go.RowKit
set_option linter.unusedVariables false
set_option linter.unusedSimpArgs false

theorem stackplays_walk (w : World) (v0 v1 : Value) (x0 : Int) (x1 : (Par.one (.sl 40 OpR)).T) (h0 : (Par.one (.int .i64)).Is w v0 x0) (h1 : (Par.one (.sl 40 OpR)).Is w v1 x1) :
    Calls Try.prog 5 #[v0, v1] w fun e w' => e = .returned (.bool true) ∧ Ext w w' := by
  obtain ⟨rfl, r0⟩ := h0
  obtain ⟨rfl, hc, hl, hop⟩ := op_at h1
  have r0 := wf_i64 r0
  obtain ⟨script, ls⟩ := x1
  dsimp only at *
  refine vc_5 x0 script _ _ ?_
  simp only [eq_self, true_and, and_true, decide_eq_true_eq, decide_eq_false_iff_not, gd_st, gd_sf, exists_eq_left', exists_eq_left, Option.some.injEq, Sl.eta, Nat.reduceLeDiff, Int.reduceLE, Int.reduceLT, Int.reduceEq, Int.reduceNe, Nat.reduceMul, Nat.reduceAdd, Nat.reduceSub, Int.toNat_natCast, beq_iff_eq, bne_iff_ne, beq_eq_false_iff_ne, bne_eq_false_iff_eq, pick_and, pick_or, Bool.and_eq_true, Bool.or_eq_true, Bool.and_eq_false_iff, Bool.or_eq_false_iff, ne_eq, not_false_eq_true, Bool.not_eq_true', Bool.not_eq_false', reduceCtorEq, Nat.le_refl, Nat.zero_mul, Nat.mul_one, Nat.zero_add, Int.reduceToNat, ones, one, add_mk, Decidable.not_not, cond_true, cond_false, true_implies, false_implies, implies_true, Bool.not_true, Bool.not_false]
  refine ⟨(shown_spec w).mono ?_⟩
  rintro e w1 ⟨rfl, x01⟩
  refine ⟨_, rfl, ⟨(new_spec x0 w1).mono ?_⟩⟩
  rintro e w2 ⟨x12, ⟨n0, n1, g, F, rfl, hs, hF⟩ | ⟨hbad, rfl⟩⟩
  rotate_left
  · refine ⟨_, _, rfl, ⟨(rnew_spec x0 w2).mono ?_⟩⟩
    rintro e w3 ⟨x23, ⟨m0, m1, _⟩ | ⟨_, rfl⟩⟩
    · omega
    · refine ⟨_, _, rfl, fun _ => ⟨fun _ => ⟨fun h => absurd rfl h, fun _ => ⟨fun _ => (x01.trans x12).trans x23, fun h => by cases h⟩⟩, fun h => absurd rfl h⟩, fun h => by cases h⟩
  refine ⟨_, _, rfl, ⟨(rnew_spec x0 w2).mono ?_⟩⟩
  rintro e w3 ⟨x23, ⟨_, _, g', G, rfl, hr, hG⟩ | ⟨hbad, _⟩⟩
  rotate_left
  · omega
  have P3 : Pair w w3 g F g' G x0.toNat [] := ⟨(x01.trans x12).trans x23, hs.ext x23, hr, fun k hk => Nat.le_trans x01.size (hF k hk), fun k hk => Nat.le_trans (x01.trans x12).size (hG k hk), fun k hk hg => by
    have := hs.lt k hk
    have := hG k hg
    omega⟩
  refine ⟨_, _, rfl, fun _ => ⟨fun _ => ⟨fun h => absurd rfl h, fun _ => ⟨fun h => (by cases h), fun _ => ?_⟩⟩, fun h => absurd rfl h⟩, fun h => by cases h⟩
  refine ⟨fun n w' => 0 ≤ n ∧ n ≤ script.n ∧ On w w' g g' x0.toNat, fun n _ => (script.n - n).toNat, ⟨by omega, by omega, P3.go⟩, ?_⟩
  rintro _ n w4 ⟨i0, i1, F4, G4, L4, P4⟩
  refine ⟨fun hn => ?_, fun hn => ?_⟩
  · obtain ⟨p, k, a, b, c, x, hp, k0, k1, _, _, _, _, _, _, hcells⟩ := hop n.toNat (by omega)
    have cc := hcells w4 P4.ext
    refine ⟨i0, hn, p, hp, k, a, b, c, (x : Nat), rfl, cc, ⟨(step_spec k a b c x k0 k1 P4).mono ?_⟩⟩
    rintro e w5 ⟨rfl, on⟩
    refine ⟨_, rfl, fun h => (by cases h), fun _ => ⟨⟨?_, ?_, on⟩, ?_⟩⟩
    · rw [wrap_i64 (by omega) (by omega)]; omega
    · rw [wrap_i64 (by omega) (by omega)]; omega
    · dsimp only
      rw [wrap_i64 (by omega) (by omega)]; omega
  obtain ⟨fs, Q, hQ, hQL⟩ := P4.r
  have hQl : fs.n = L4.length := by rw [← hQL, List.length_map, hQ.at_.len]
  have hsm : L4.length ≤ 65536 := by rw [← hQL, List.length_map]; exact hQ.at_.small
  refine ⟨fun n w' => 0 ≤ n ∧ n ≤ L4.length ∧ Ext w4 w', fun n _ => (L4.length - n).toNat, ⟨by omega, by omega, Ext.refl _⟩, ?_⟩
  rintro _ m w5 ⟨m0, m1, x45⟩
  have P5 := P4.qt x45
  have hb5 := (hQ.ext x45).at_.hd
  simp only [hb5.cell, List.getElem?_cons_zero, List.getElem?_cons_succ, ex_sl, Value.int.injEq, Value.bool.injEq, Value.pointer.injEq, Value.string.injEq, eq_self, true_and, and_true, decide_eq_true_eq, decide_eq_false_iff_not, gd_st, gd_sf, exists_eq_left', exists_eq_left, Option.some.injEq, Sl.eta, Nat.reduceLeDiff, Int.reduceLE, Int.reduceLT, Int.reduceEq, Int.reduceNe, Nat.reduceMul, Nat.reduceAdd, Nat.reduceSub, Int.toNat_natCast, beq_iff_eq, bne_iff_ne, beq_eq_false_iff_ne, bne_eq_false_iff_eq, pick_and, pick_or, Bool.and_eq_true, Bool.or_eq_true, Bool.and_eq_false_iff, Bool.or_eq_false_iff, ne_eq, not_false_eq_true, Bool.not_eq_true', Bool.not_eq_false', reduceCtorEq, Nat.le_refl, Nat.zero_mul, Nat.mul_one, Nat.zero_add, Int.reduceToNat, ones, one, add_mk, Decidable.not_not, cond_true, cond_false, true_implies, false_implies, implies_true, Bool.not_true, Bool.not_false]
  refine ⟨fun hm => ⟨(lawframe_spec m P5).mono ?_⟩, fun hm => ?_⟩
  · rintro e w6 ⟨rfl, x6⟩
    refine ⟨_, rfl, fun h => (by cases h), fun _ => ⟨⟨?_, ?_, x45.trans x6⟩, ?_⟩⟩
    · rw [wrap_i64 (by omega) (by omega)]; omega
    · rw [wrap_i64 (by omega) (by omega)]; omega
    · rw [wrap_i64 (by omega) (by omega)]; omega
  · refine ⟨(frameT_spec _ P5.s).mono ?_⟩
    rintro e w6 ⟨x6, ⟨_, rfl⟩ | ⟨A, f, C, a, b, hL, hk, _⟩⟩
    rotate_left
    · have := congrArg List.length hL
      simp at this
      omega
    refine ⟨_, _, ⟨none, 0, 0⟩, ⟨none, 0, 0⟩, false, rfl, fun w7 n7 => ⟨rfl, (Blk.new n7).canSetN 0 4 (by simp), fun w8 hs8 w9 q9 => ⟨fun _ => False, fun _ => ⟨fs, fun w' u => ?_, ?_⟩, fun h => by cases h⟩⟩⟩
    · have x59 : Ext w5 w9 := (x6.trans (n7.ext.fresh hs8.upd (by rintro i rfl; exact Nat.le_refl _))).trans q9.ext
      exact (hb5.ext (x59.trans u)).cell 1
    have x59 : Ext w5 w9 := (x6.trans (n7.ext.fresh hs8.upd (by rintro i rfl; exact Nat.le_refl _))).trans q9.ext
    have P9 := P5.qt x59
    refine ⟨(depth_spec P9.s).mono ?_⟩
    rintro e w10 ⟨rfl, q10⟩
    have P10 := P9.qt q10.ext
    refine ⟨_, rfl, q10.ext, fun _ => ⟨(used_spec P10.s).mono ?_⟩, fun h => by omega⟩
    rintro e w11 ⟨rfl, q11⟩
    have P11 := P10.qt q11.ext
    refine ⟨_, rfl, q11.ext, ⟨(rused_spec P11.r).mono ?_⟩⟩
    rintro e w12 ⟨rfl, x12'⟩
    exact ⟨_, rfl, by rw [beq_self_eq_true], (P11.qt x12').ext⟩
end Go.Proofs.Ytodbmiflnellcaa.V
