/-
  Law ArenaPacks: the walk.
-/
import Derived.Test.YtcmmdaginkhomaaAr23
import Derived.Test.YtcmmdaginkhomaaVcD
import Derived.Test.YtcmmdaginkhomaaRow
namespace Go.Proofs.Ytcmmdaginkhomaa.V
open Go Go.RowKit
set_option linter.unusedVariables false
set_option linter.unusedSimpArgs false
set_option maxRecDepth 100000

abbrev HdR : Rw := .cons (.int .i64) (.cons (.int .i64) (.cons (.int .i64) (.cons (.int .u64) .nil)))
theorem is_hd {w : World} {v : Value} {x : HdR.T} (h : (Par.agg HdR).Is w v x) : ∃ hd : Hd, v = hdV hd ∧ -9223372036854775808 ≤ hd.k ∧ hd.k ≤ 9223372036854775807 ∧ -9223372036854775808 ≤ hd.t ∧ hd.t ≤ 9223372036854775807 ∧ -9223372036854775808 ≤ hd.l ∧ hd.l ≤ 9223372036854775807 ∧ hd.r < 18446744073709551616 := by
  simp only [Par.Is, Rw.Is, Dt.Is] at h
  obtain ⟨_, rfl, _, _, rfl, ⟨rfl, h1⟩, _, _, rfl, ⟨rfl, h2⟩, _, _, rfl, ⟨rfl, h3⟩, _, _, rfl, ⟨rfl, h4⟩, rfl⟩ := h
  have h1 := wf_i64 h1; have h2 := wf_i64 h2; have h3 := wf_i64 h3; have h4 := wf_u64 h4
  refine ⟨⟨x.1, x.2.1, x.2.2.1, x.2.2.2.1.toNat⟩, ?_, h1.1, h1.2, h2.1, h2.2, h3.1, h3.2, by dsimp only; omega⟩
  show _ = Value.agg #[_, _, _, .int .u64 ((x.2.2.2.1.toNat : Nat) : Int)]
  rw [Int.toNat_of_nonneg h4.1]
theorem arenapacks_walk (w : World) (v0 v1 : Value) (x0 : HdR.T) (x1 : Int) (h0 : (Par.agg HdR).Is w v0 x0) (h1 : (Par.one (.int .u64)).Is w v1 x1) :
    Calls Try.prog 3 #[v0, v1] w fun e w' => e = .returned (.bool true) ∧ Ext w w' := by
  obtain ⟨h, rfl, k0, k1, t0, t1, l0, l1, r1⟩ := is_hd h0
  obtain ⟨rfl, r0⟩ := h1
  have r0 := wf_u64 r0
  obtain ⟨x, rfl⟩ : ∃ n : Nat, x1 = n := ⟨x1.toNat, by omega⟩
  have hx : x < 18446744073709551616 := by omega
  refine vc_3 _ _ _ _ _ _ _ ?_
  simp only [eq_self, false_or, or_false, true_and, and_true, decide_eq_true_eq, decide_eq_false_iff_not, gd_st, gd_sf, exists_eq_left', exists_eq_left, Option.some.injEq, Sl.eta, Nat.reduceLeDiff, Int.reduceLE, Int.reduceLT, Int.reduceEq, Int.reduceNe, Nat.reduceMul, Nat.reduceAdd, Nat.reduceSub, Int.toNat_natCast, beq_iff_eq, bne_iff_ne, beq_eq_false_iff_ne, bne_eq_false_iff_eq, pick_and, pick_or, Bool.and_eq_true, Bool.or_eq_true, Bool.and_eq_false_iff, Bool.or_eq_false_iff, ne_eq, not_false_eq_true, Bool.not_eq_true', Bool.not_eq_false', reduceCtorEq, Nat.le_refl, Nat.zero_mul, Nat.mul_one, Nat.zero_add, Int.reduceToNat, ones, one, add_mk, Decidable.not_not, cond_true, cond_false, true_implies, false_implies, implies_true, Bool.not_true, Bool.not_false]
  intro w1 n1
  have k1 := Blk.new n1
  refine ⟨(shown_spec w1).mono ?_⟩
  rintro e w2 ⟨rfl, x2⟩
  have k2 := k1.ext x2
  refine ⟨_, rfl, _, _, _, _, rfl, ⟨k2.cell 0, k2.cell 1, k2.cell 2, k2.cell 3⟩, ⟨(pack_spec h w2).mono ?_⟩⟩
  rintro e w3 ⟨rfl, x3⟩
  have k3 := k2.ext x3
  refine ⟨_, _, rfl, _, _, _, _, rfl, ⟨k3.cell 0, k3.cell 1, k3.cell 2, k3.cell 3⟩, ⟨(rpack_spec h w3).mono ?_⟩⟩
  rintro e w4 ⟨rfl, x4⟩
  refine ⟨_, _, rfl, ⟨(unpack_spec hx w4).mono ?_⟩⟩
  rintro e w5 ⟨rfl, x5⟩
  refine ⟨_, _, _, _, _, rfl, fun w6 n6 => ⟨rfl, HB.can n6, fun w7 s7 => ?_⟩⟩
  obtain ⟨b7, y7⟩ := HB.made n6 s7
  refine ⟨(runpack_spec hx w7).mono ?_⟩
  rintro e w8 ⟨rfl, x8⟩
  refine ⟨_, _, _, _, _, rfl, fun w9 n9 => ⟨rfl, HB.can n9, fun w10 s10 => ?_⟩⟩
  obtain ⟨c10, y10⟩ := HB.made n9 s10
  have b10 := b7.ext (x8.trans y10)
  have k10 := (((k3.ext x4).ext x5).ext y7).ext (x8.trans y10)
  have x10 : Ext w w10 := ((((((n1.ext.trans x2).trans x3).trans x4).trans x5).trans y7).trans x8).trans y10
  refine ⟨fun _ => ⟨fun _ => ⟨fun _ => ⟨_, _, _, _, rfl, ⟨b10.cell 0, b10.cell 1, b10.cell 2, b10.cell 3⟩, _, _, _, _, rfl, ⟨c10.cell 0, c10.cell 1, c10.cell 2, c10.cell 3⟩, fun _ => ⟨fun h => absurd rfl h, fun _ => ?_⟩, fun hh => ?_⟩, fun h => absurd rfl h⟩, fun h => absurd rfl h⟩, fun h => (by cases h)⟩
  rotate_left
  · rcases hh with ((hh | hh) | hh) | hh <;> exact absurd rfl hh
  refine ⟨fun w' => HB w' w5.heap.size (unpO x).1 ∧ Ext w w', ⟨fun hp => ?_, fun hp => ⟨b10, x10⟩⟩, ?_⟩
  · have hm : mayT h = true := by
      rw [← Bool.not_eq_false]; intro hf; unfold packO at hp; rw [if_neg (by rw [hf]; decide)] at hp; cases hp
    have m : MayT h := of_decide_eq_true hm
    have ep : packO h = (packT h, true) := by unfold packO; rw [if_pos hm]
    have eu : unpO (packT h) = (h, true) := by unfold unpO; rw [unp_pack m, if_pos hm]
    rw [ep]
    refine ⟨(unpack_spec (x := packT h) (by have := pack_lt m; omega) w10).mono ?_⟩
    rintro e w11 ⟨rfl, x11⟩
    rw [eu]
    refine ⟨_, _, _, _, _, rfl, fun w12 n12 => ⟨rfl, HB.can n12, fun w13 s13 => ?_⟩⟩
    obtain ⟨b13, y13⟩ := HB.made (h := h) n12 s13
    have k13 := k10.ext (x11.trans y13)
    refine ⟨fun _ => ⟨_, _, _, _, rfl, ⟨b13.cell 0, b13.cell 1, b13.cell 2, b13.cell 3⟩, _, _, _, _, rfl, ⟨k13.cell 0, k13.cell 1, k13.cell 2, k13.cell 3⟩, fun hh => ?_, fun _ => ⟨b10.ext (x11.trans y13), (x10.trans x11).trans y13⟩⟩, fun h => (by cases h)⟩
    rcases hh with ((hh | hh) | hh) | hh <;> exact absurd rfl hh
  · rintro _ w14 ⟨b14, x14⟩
    refine ⟨fun hu => ?_, fun _ => x14⟩
    have hm : mayT (unpT x) = true := by
      rw [← Bool.not_eq_false]; intro hf; unfold unpO at hu; rw [if_neg (by rw [hf]; decide)] at hu; cases hu
    have eu : unpO x = (unpT x, true) := by unfold unpO; rw [if_pos hm]
    rw [eu] at b14
    refine ⟨_, _, _, _, rfl, ⟨b14.cell 0, b14.cell 1, b14.cell 2, b14.cell 3⟩, ⟨(pack_spec (unpT x) w14).mono ?_⟩⟩
    rintro e w15 ⟨rfl, x15⟩
    have ep : packO (unpT x) = (x, true) := by unfold packO; rw [if_pos hm, pack_unp]
    rw [ep]
    exact ⟨_, _, rfl, fun _ => ⟨rb (by simp), x14.trans x15⟩, fun h => (by cases h)⟩
end Go.Proofs.Ytcmmdaginkhomaa.V
