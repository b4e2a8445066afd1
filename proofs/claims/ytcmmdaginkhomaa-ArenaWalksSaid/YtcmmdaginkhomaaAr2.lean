/-
  Pack and Unpack, by both.
-/
import Derived.Test.YtcmmdaginkhomaaAr1
namespace Go.Proofs.Ytcmmdaginkhomaa.V
open Go Go.RowKit
set_option linter.unusedVariables false
set_option linter.unusedSimpArgs false
set_option maxRecDepth 100000

def packO (h : Hd) : Nat × Bool := if mayT h = true then (packT h, true) else (0, false)
def unpO (x : Nat) : Hd × Bool := if mayT (unpT x) = true then (unpT x, true) else (hd0, false)
theorem unp_r (x : Nat) : (unpT x).r = x / 2097152 := rfl
theorem pack_spec (h : Hd) (w : World) : Calls Try.prog 12 #[hdV h] w fun e w' => e = .returned (.tuple #[.int .u64 ((packO h).1 : Nat), .bool (packO h).2]) ∧ Ext w w' := by
  refine vc_12 _ _ _ _ _ _ ?_
  simp only [eq_self, false_or, or_false, true_and, and_true, decide_eq_true_eq, decide_eq_false_iff_not, gd_st, gd_sf, exists_eq_left', exists_eq_left, Option.some.injEq, Sl.eta, Nat.reduceLeDiff, Int.reduceLE, Int.reduceLT, Int.reduceEq, Int.reduceNe, Nat.reduceMul, Nat.reduceAdd, Nat.reduceSub, Int.toNat_natCast, beq_iff_eq, bne_iff_ne, beq_eq_false_iff_ne, bne_eq_false_iff_eq, pick_and, pick_or, Bool.and_eq_true, Bool.or_eq_true, Bool.and_eq_false_iff, Bool.or_eq_false_iff, ne_eq, not_false_eq_true, Bool.not_eq_true', Bool.not_eq_false', reduceCtorEq, Nat.le_refl, Nat.zero_mul, Nat.mul_one, Nat.zero_add, Int.reduceToNat, ones, one, add_mk, Decidable.not_not, cond_true, cond_false, true_implies, false_implies, implies_true, Bool.not_true, Bool.not_false]
  intro w1 n1
  have k1 := Blk.new n1
  have x1 := n1.ext
  simp only [k1.cell, List.getElem?_cons_zero, List.getElem?_cons_succ, ex_sl, Value.int.injEq, Value.bool.injEq, Value.pointer.injEq, Value.string.injEq, eq_self, false_or, or_false, true_and, and_true, decide_eq_true_eq, decide_eq_false_iff_not, gd_st, gd_sf, exists_eq_left', exists_eq_left, Option.some.injEq, Sl.eta, Nat.reduceLeDiff, Int.reduceLE, Int.reduceLT, Int.reduceEq, Int.reduceNe, Nat.reduceMul, Nat.reduceAdd, Nat.reduceSub, Int.toNat_natCast, beq_iff_eq, bne_iff_ne, beq_eq_false_iff_ne, bne_eq_false_iff_eq, pick_and, pick_or, Bool.and_eq_true, Bool.or_eq_true, Bool.and_eq_false_iff, Bool.or_eq_false_iff, ne_eq, not_false_eq_true, Bool.not_eq_true', Bool.not_eq_false', reduceCtorEq, Nat.le_refl, Nat.zero_mul, Nat.mul_one, Nat.zero_add, Int.reduceToNat, ones, one, add_mk, Decidable.not_not, cond_true, cond_false, true_implies, false_implies, implies_true, Bool.not_true, Bool.not_false]
  refine ⟨_, _, _, _, rfl, ⟨rfl, rfl, rfl, rfl⟩, ⟨(may_spec h w1).mono ?_⟩⟩
  rintro e w2 ⟨rfl, x2⟩
  have k2 := k1.ext x2
  simp only [k2.cell, List.getElem?_cons_zero, List.getElem?_cons_succ, ex_sl, Value.int.injEq, Value.bool.injEq, Value.pointer.injEq, Value.string.injEq, eq_self, false_or, or_false, true_and, and_true, decide_eq_true_eq, decide_eq_false_iff_not, gd_st, gd_sf, exists_eq_left', exists_eq_left, Option.some.injEq, Sl.eta, Nat.reduceLeDiff, Int.reduceLE, Int.reduceLT, Int.reduceEq, Int.reduceNe, Nat.reduceMul, Nat.reduceAdd, Nat.reduceSub, Int.toNat_natCast, beq_iff_eq, bne_iff_ne, beq_eq_false_iff_ne, bne_eq_false_iff_eq, pick_and, pick_or, Bool.and_eq_true, Bool.or_eq_true, Bool.and_eq_false_iff, Bool.or_eq_false_iff, ne_eq, not_false_eq_true, Bool.not_eq_true', Bool.not_eq_false', reduceCtorEq, Nat.le_refl, Nat.zero_mul, Nat.mul_one, Nat.zero_add, Int.reduceToNat, ones, one, add_mk, Decidable.not_not, cond_true, cond_false, true_implies, false_implies, implies_true, Bool.not_true, Bool.not_false]
  refine ⟨_, rfl, fun hb => ⟨?_, x1.trans x2⟩, fun hb => ⟨?_, x1.trans x2⟩⟩
  · unfold packO; rw [if_neg (by rw [hb]; decide)]; rfl
  · unfold packO; rw [if_pos hb, pack_or (of_decide_eq_true hb)]
theorem rpack_spec (h : Hd) (w : World) : Calls Try.prog 13 #[hdV h] w fun e w' => e = .returned (.tuple #[.int .u64 ((packO h).1 : Nat), .bool (packO h).2]) ∧ Ext w w' := by
  refine vc_13 _ _ _ _ _ _ ?_
  simp only [eq_self, false_or, or_false, true_and, and_true, decide_eq_true_eq, decide_eq_false_iff_not, gd_st, gd_sf, exists_eq_left', exists_eq_left, Option.some.injEq, Sl.eta, Nat.reduceLeDiff, Int.reduceLE, Int.reduceLT, Int.reduceEq, Int.reduceNe, Nat.reduceMul, Nat.reduceAdd, Nat.reduceSub, Int.toNat_natCast, beq_iff_eq, bne_iff_ne, beq_eq_false_iff_ne, bne_eq_false_iff_eq, pick_and, pick_or, Bool.and_eq_true, Bool.or_eq_true, Bool.and_eq_false_iff, Bool.or_eq_false_iff, ne_eq, not_false_eq_true, Bool.not_eq_true', Bool.not_eq_false', reduceCtorEq, Nat.le_refl, Nat.zero_mul, Nat.mul_one, Nat.zero_add, Int.reduceToNat, ones, one, add_mk, Decidable.not_not, cond_true, cond_false, true_implies, false_implies, implies_true, Bool.not_true, Bool.not_false]
  intro w1 n1
  have k1 := Blk.new n1
  have x1 := n1.ext
  simp only [k1.cell, List.getElem?_cons_zero, List.getElem?_cons_succ, ex_sl, Value.int.injEq, Value.bool.injEq, Value.pointer.injEq, Value.string.injEq, eq_self, false_or, or_false, true_and, and_true, decide_eq_true_eq, decide_eq_false_iff_not, gd_st, gd_sf, exists_eq_left', exists_eq_left, Option.some.injEq, Sl.eta, Nat.reduceLeDiff, Int.reduceLE, Int.reduceLT, Int.reduceEq, Int.reduceNe, Nat.reduceMul, Nat.reduceAdd, Nat.reduceSub, Int.toNat_natCast, beq_iff_eq, bne_iff_ne, beq_eq_false_iff_ne, bne_eq_false_iff_eq, pick_and, pick_or, Bool.and_eq_true, Bool.or_eq_true, Bool.and_eq_false_iff, Bool.or_eq_false_iff, ne_eq, not_false_eq_true, Bool.not_eq_true', Bool.not_eq_false', reduceCtorEq, Nat.le_refl, Nat.zero_mul, Nat.mul_one, Nat.zero_add, Int.reduceToNat, ones, one, add_mk, Decidable.not_not, cond_true, cond_false, true_implies, false_implies, implies_true, Bool.not_true, Bool.not_false]
  refine ⟨_, _, _, _, rfl, ⟨rfl, rfl, rfl, rfl⟩, ⟨(rmay_spec h w1).mono ?_⟩⟩
  rintro e w2 ⟨rfl, x2⟩
  have k2 := k1.ext x2
  simp only [k2.cell, List.getElem?_cons_zero, List.getElem?_cons_succ, ex_sl, Value.int.injEq, Value.bool.injEq, Value.pointer.injEq, Value.string.injEq, eq_self, false_or, or_false, true_and, and_true, decide_eq_true_eq, decide_eq_false_iff_not, gd_st, gd_sf, exists_eq_left', exists_eq_left, Option.some.injEq, Sl.eta, Nat.reduceLeDiff, Int.reduceLE, Int.reduceLT, Int.reduceEq, Int.reduceNe, Nat.reduceMul, Nat.reduceAdd, Nat.reduceSub, Int.toNat_natCast, beq_iff_eq, bne_iff_ne, beq_eq_false_iff_ne, bne_eq_false_iff_eq, pick_and, pick_or, Bool.and_eq_true, Bool.or_eq_true, Bool.and_eq_false_iff, Bool.or_eq_false_iff, ne_eq, not_false_eq_true, Bool.not_eq_true', Bool.not_eq_false', reduceCtorEq, Nat.le_refl, Nat.zero_mul, Nat.mul_one, Nat.zero_add, Int.reduceToNat, ones, one, add_mk, Decidable.not_not, cond_true, cond_false, true_implies, false_implies, implies_true, Bool.not_true, Bool.not_false]
  refine ⟨_, rfl, fun hb => ⟨?_, x1.trans x2⟩, fun hb => ⟨?_, x1.trans x2⟩⟩
  · unfold packO; rw [if_neg (by rw [hb]; decide)]; rfl
  · have m : MayT h := of_decide_eq_true hb
    have h1 := m.lt; have h2 := m.le; have h3 := m.kind
    obtain ⟨_, _, _, _⟩ := m
    have e : IntKind.u64.wrap (IntKind.u64.wrap (IntKind.u64.wrap (IntKind.u64.wrap h.k + IntKind.u64.wrap (4 * IntKind.u64.wrap h.t)) + IntKind.u64.wrap (1024 * IntKind.u64.wrap h.l)) + IntKind.u64.wrap (2097152 * (h.r : Int))) = ((packT h : Nat) : Int) := by
      unfold packT
      simp only [wrap_u64']
      omega
    unfold packO; rw [if_pos hb, e]
/-- an unpacked word's parts, by shifts -/
theorem unp_bits {x : Nat} (hx : x < 18446744073709551616) :
    IntKind.i64.wrap (bitV .and .u64 (x : Int) 3) = (unpT x).k ∧ IntKind.i64.wrap (bitV .and .u64 (shrV .u64 (x : Int) 2) 255) = (unpT x).t ∧
      IntKind.i64.wrap (bitV .and .u64 (shrV .u64 (x : Int) 10) 2047) = (unpT x).l ∧ shrV .u64 (x : Int) 21 = ((unpT x).r : Int) := by
  rw [show shrV .u64 (x : Int) 2 = _ from shr_nat .u64 x 2 (by decide), show shrV .u64 (x : Int) 10 = _ from shr_nat .u64 x 10 (by decide), show shrV .u64 (x : Int) 21 = _ from shr_nat .u64 x 21 (by decide)]
  rw [show (3 : Int) = ((3 : Nat) : Int) from rfl, show (255 : Int) = ((255 : Nat) : Int) from rfl, show (2047 : Int) = ((2047 : Nat) : Int) from rfl]
  rw [and_u64 _ _ hx (by decide), and_u64 _ _ (by omega) (by decide), and_u64 _ _ (by omega) (by decide)]
  rw [show x &&& 3 = x % 4 from Nat.and_two_pow_sub_one_eq_mod x 2, show x / 2 ^ 2 &&& 255 = x / 2 ^ 2 % 256 from Nat.and_two_pow_sub_one_eq_mod _ 8, show x / 2 ^ 10 &&& 2047 = x / 2 ^ 10 % 2048 from Nat.and_two_pow_sub_one_eq_mod _ 11]
  rw [wrap_i64 (by omega) (by omega), wrap_i64 (by omega) (by omega), wrap_i64 (by omega) (by omega)]
  exact ⟨rfl, rfl, rfl, rfl⟩
theorem unp_div {x : Nat} (hx : x < 18446744073709551616) :
    IntKind.i64.wrap ((x : Int).tmod 4) = (unpT x).k ∧ IntKind.i64.wrap ((IntKind.u64.wrap ((x : Int).tdiv 4)).tmod 256) = (unpT x).t ∧
      IntKind.i64.wrap ((IntKind.u64.wrap ((x : Int).tdiv 1024)).tmod 2048) = (unpT x).l ∧ IntKind.u64.wrap ((x : Int).tdiv 2097152) = ((unpT x).r : Int) := by
  rw [Int.tmod_eq_emod_of_nonneg (by omega), Int.tdiv_eq_ediv_of_nonneg (by omega), Int.tdiv_eq_ediv_of_nonneg (by omega), Int.tdiv_eq_ediv_of_nonneg (by omega)]
  rw [wrap_u64 (n := (x : Int) / 4) (by omega) (by omega), wrap_u64 (n := (x : Int) / 1024) (by omega) (by omega), wrap_u64 (n := (x : Int) / 2097152) (by omega) (by omega)]
  rw [Int.tmod_eq_emod_of_nonneg (by omega), Int.tmod_eq_emod_of_nonneg (by omega)]
  rw [wrap_i64 (by omega) (by omega), wrap_i64 (by omega) (by omega), wrap_i64 (by omega) (by omega)]
  exact ⟨rfl, rfl, rfl, rfl⟩
theorem unpack_spec {x : Nat} (hx : x < 18446744073709551616) (w : World) : Calls Try.prog 14 #[.int .u64 x] w fun e w' => e = .returned (.tuple #[hdV (unpO x).1, .bool (unpO x).2]) ∧ Ext w w' := by
  refine vc_14 _ _ _ ?_
  obtain ⟨e1, e2, e3, e4⟩ := unp_bits hx
  simp only [eq_self, false_or, or_false, true_and, and_true, decide_eq_true_eq, decide_eq_false_iff_not, gd_st, gd_sf, exists_eq_left', exists_eq_left, Option.some.injEq, Sl.eta, Nat.reduceLeDiff, Int.reduceLE, Int.reduceLT, Int.reduceEq, Int.reduceNe, Nat.reduceMul, Nat.reduceAdd, Nat.reduceSub, Int.toNat_natCast, beq_iff_eq, bne_iff_ne, beq_eq_false_iff_ne, bne_eq_false_iff_eq, pick_and, pick_or, Bool.and_eq_true, Bool.or_eq_true, Bool.and_eq_false_iff, Bool.or_eq_false_iff, ne_eq, not_false_eq_true, Bool.not_eq_true', Bool.not_eq_false', reduceCtorEq, Nat.le_refl, Nat.zero_mul, Nat.mul_one, Nat.zero_add, Int.reduceToNat, ones, one, add_mk, Decidable.not_not, cond_true, cond_false, true_implies, false_implies, implies_true, Bool.not_true, Bool.not_false]
  rw [e1, e2, e3, e4]
  intro w1 n1
  refine ⟨by simp [len', wr, splice, rep], by simp [len', wr, splice, rep], by simp [len', wr, splice, rep], fun w2 n2 => ⟨by simp [len', wr, splice, rep], HB.can n2, fun w3 s3 => ?_⟩⟩
  have k1 := Blk.new n1
  obtain ⟨b3, x3⟩ := HB.made n2 s3
  refine ⟨_, _, _, _, rfl, ⟨b3.cell 0, b3.cell 1, b3.cell 2, b3.cell 3⟩, ⟨(may_spec (unpT x) w3).mono ?_⟩⟩
  rintro e w4 ⟨rfl, x4⟩
  have k4 := ((k1.ext x3).ext x4)
  have b4 := b3.ext x4
  have x04 := (n1.ext.trans x3).trans x4
  refine ⟨_, rfl, fun hb => ⟨k4.canSetN 0 4 (by simp), fun w5 s5 => ?_⟩, fun hb => ⟨_, _, _, _, rfl, ⟨b4.cell 0, b4.cell 1, b4.cell 2, b4.cell 3⟩, rfl, k4.canSetN 0 4 (by simp), fun w5 s5 => ?_⟩⟩
  · have b5 : HB w5 w.heap.size hd0 := HB.set k4 s5
    refine ⟨_, _, _, _, rfl, ⟨b5.cell 0, b5.cell 1, b5.cell 2, b5.cell 3⟩, ?_, x04.fresh s5.upd (by rintro i rfl; exact Nat.le_refl _)⟩
    unfold unpO; rw [if_neg (by rw [hb]; decide)]
  · have b5 : HB w5 w.heap.size (unpT x) := HB.set k4 s5
    refine ⟨_, _, _, _, rfl, ⟨b5.cell 0, b5.cell 1, b5.cell 2, b5.cell 3⟩, ?_, x04.fresh s5.upd (by rintro i rfl; exact Nat.le_refl _)⟩
    unfold unpO; rw [if_pos hb]
theorem runpack_spec {x : Nat} (hx : x < 18446744073709551616) (w : World) : Calls Try.prog 15 #[.int .u64 x] w fun e w' => e = .returned (.tuple #[hdV (unpO x).1, .bool (unpO x).2]) ∧ Ext w w' := by
  refine vc_15 _ _ _ ?_
  obtain ⟨e1, e2, e3, e4⟩ := unp_div hx
  simp only [eq_self, false_or, or_false, true_and, and_true, decide_eq_true_eq, decide_eq_false_iff_not, gd_st, gd_sf, exists_eq_left', exists_eq_left, Option.some.injEq, Sl.eta, Nat.reduceLeDiff, Int.reduceLE, Int.reduceLT, Int.reduceEq, Int.reduceNe, Nat.reduceMul, Nat.reduceAdd, Nat.reduceSub, Int.toNat_natCast, beq_iff_eq, bne_iff_ne, beq_eq_false_iff_ne, bne_eq_false_iff_eq, pick_and, pick_or, Bool.and_eq_true, Bool.or_eq_true, Bool.and_eq_false_iff, Bool.or_eq_false_iff, ne_eq, not_false_eq_true, Bool.not_eq_true', Bool.not_eq_false', reduceCtorEq, Nat.le_refl, Nat.zero_mul, Nat.mul_one, Nat.zero_add, Int.reduceToNat, ones, one, add_mk, Decidable.not_not, cond_true, cond_false, true_implies, false_implies, implies_true, Bool.not_true, Bool.not_false]
  rw [e1, e2, e3, e4]
  intro w1 n1
  refine ⟨by simp [len', wr, splice, rep], by simp [len', wr, splice, rep], by simp [len', wr, splice, rep], fun w2 n2 => ⟨by simp [len', wr, splice, rep], HB.can n2, fun w3 s3 => ?_⟩⟩
  have k1 := Blk.new n1
  obtain ⟨b3, x3⟩ := HB.made n2 s3
  refine ⟨_, _, _, _, rfl, ⟨b3.cell 0, b3.cell 1, b3.cell 2, b3.cell 3⟩, ⟨(rmay_spec (unpT x) w3).mono ?_⟩⟩
  rintro e w4 ⟨rfl, x4⟩
  have k4 := ((k1.ext x3).ext x4)
  have b4 := b3.ext x4
  have x04 := (n1.ext.trans x3).trans x4
  refine ⟨_, rfl, fun hb => ⟨k4.canSetN 0 4 (by simp), fun w5 s5 => ?_⟩, fun hb => ⟨_, _, _, _, rfl, ⟨b4.cell 0, b4.cell 1, b4.cell 2, b4.cell 3⟩, rfl, k4.canSetN 0 4 (by simp), fun w5 s5 => ?_⟩⟩
  · have b5 : HB w5 w.heap.size hd0 := HB.set k4 s5
    refine ⟨_, _, _, _, rfl, ⟨b5.cell 0, b5.cell 1, b5.cell 2, b5.cell 3⟩, ?_, x04.fresh s5.upd (by rintro i rfl; exact Nat.le_refl _)⟩
    unfold unpO; rw [if_neg (by rw [hb]; decide)]
  · have b5 : HB w5 w.heap.size (unpT x) := HB.set k4 s5
    refine ⟨_, _, _, _, rfl, ⟨b5.cell 0, b5.cell 1, b5.cell 2, b5.cell 3⟩, ?_, x04.fresh s5.upd (by rintro i rfl; exact Nat.le_refl _)⟩
    unfold unpO; rw [if_pos hb]
end Go.Proofs.Ytcmmdaginkhomaa.V
