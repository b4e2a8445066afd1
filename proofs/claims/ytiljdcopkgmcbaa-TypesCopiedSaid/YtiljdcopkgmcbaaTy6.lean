/-
  Headers, by a table.
-/
import Derived.Test.YtiljdcopkgmcbaaTy5
namespace Go.Proofs.Ytiljdcopkgmcbaa.V
open Go Go.RowKit
set_option linter.unusedVariables false
set_option linter.unusedSimpArgs false
set_option maxRecDepth 100000

/-- bits of types that are references, the first at a bit -/
def bitsGo (L : List Ty) : List Int → Nat → Nat → Nat
  | [], _, b => b
  | x :: r, k, b => bitsGo L r (k + 1) (if refT L x = true then b ||| 2 ^ k else b)
def bitsT (L : List Ty) (l : List Int) (first : Nat) : Nat := bitsGo L l first 0
theorem bitsGo_test (L : List Ty) : ∀ (l : List Int) (k b j : Nat), (bitsGo L l k b).testBit j = (b.testBit j || decide (k ≤ j ∧ ∃ p, l[j - k]? = some p ∧ refT L p = true))
  | [], k, b, j => by simp [bitsGo]
  | x :: r, k, b, j => by
    rw [bitsGo, bitsGo_test L r (k + 1) _ j, Bool.eq_iff_iff]
    simp only [Bool.or_eq_true, decide_eq_true_eq]
    by_cases hjk : j = k
    · subst hjk
      rw [Nat.sub_self, List.getElem?_cons_zero]
      by_cases hx : refT L x = true
      · rw [if_pos hx]; simp [Nat.testBit_or, Nat.testBit_two_pow_self, hx]
      · rw [if_neg hx]; simp [hx]; omega
    · have e1 : (if refT L x = true then b ||| 2 ^ k else b).testBit j = b.testBit j := by
        split
        · rw [Nat.testBit_or, Nat.testBit_two_pow_of_ne (by omega), Bool.or_false]
        · rfl
      rw [e1]
      by_cases hk : k ≤ j
      · have : j - k = (j - (k + 1)) + 1 := by omega
        rw [this, List.getElem?_cons_succ]
        simp [hk, show k + 1 ≤ j by omega]
      · simp [hk, show ¬ k + 1 ≤ j by omega]
theorem bitsT_test (L : List Ty) (l : List Int) (k j : Nat) : (bitsT L l k).testBit j = decide (k ≤ j ∧ ∃ p, l[j - k]? = some p ∧ refT L p = true) := by
  rw [bitsT, bitsGo_test]; simp
theorem bitsT_lt (L : List Ty) (l : List Int) (k n : Nat) (h : k + l.length ≤ n) : bitsT L l k < 2 ^ n := by
  apply Nat.lt_pow_two_of_testBit
  intro j hj
  rw [bitsT_test]
  simp only [decide_eq_false_iff_not]
  rintro ⟨_, p, hp, _⟩
  have := (List.getElem?_eq_some_iff.1 hp).1
  omega
theorem bitsT_shift (L : List Ty) (l : List Int) (h : l.length ≤ 60) : bitsT L l 0 * 2 ^ 1 % 18446744073709551616 = bitsT L l 1 := by
  have := bitsT_lt L l 0 60 (by omega)
  rw [Nat.mod_eq_of_lt (by omega)]
  apply Nat.eq_of_testBit_eq
  intro j
  rw [Nat.testBit_mul_two_pow, bitsT_test, bitsT_test]
  rw [Bool.eq_iff_iff]
  simp only [Bool.and_eq_true, decide_eq_true_eq]
  constructor
  · rintro ⟨h1, _, p, hp, hr⟩; exact ⟨h1, p, by simpa using hp, hr⟩
  · rintro ⟨h1, p, hp, hr⟩; exact ⟨h1, by omega, p, by simpa using hp, hr⟩

structure Hd4 where
  k : Int
  t : Int
  l : Int
  r : Nat
def hdV (h : Hd4) : Value := .agg #[.int .i64 h.k, .int .i64 h.t, .int .i64 h.l, .int .u64 (h.r : Nat)]
def hd0 : Hd4 := ⟨0, 0, 0, 0⟩
def recordT (L : List Ty) (n : Int) : Hd4 × Bool := if kindT L n = 2 then (⟨1, n, (partsT L n).length, bitsT L (partsT L n) 0⟩, true) else (hd0, false)
def arrayT (L : List Ty) (n size : Int) : Hd4 × Bool :=
  if kindT L n = 3 ∧ 0 ≤ size ∧ size ≤ 1000 then (⟨if refT L (ofT L n) = true then 3 else 2, n, size, 0⟩, true) else (hd0, false)
def closureT (L : List Ty) (n : Int) (c : List Int) : Hd4 × Bool :=
  if kindT L n = 4 ∧ c.length < 32 ∧ ∀ x ∈ c, 0 ≤ kindT L x then (⟨1, n, c.length + 1, bitsT L c 1⟩, true) else (hd0, false)

theorem hd_set {w w' : World} {g : Nat} {a b c d : Value} {k t l : Int} {r : Int} (hb : Blk w g 50 [a, b, c, d]) (s : SetW w ⟨g, 0, none⟩ [.int .i64 k, .int .i64 t, .int .i64 l, .int .u64 r] w') :
    Blk w' g 50 [.int .i64 k, .int .i64 t, .int .i64 l, .int .u64 r] := s.blk hb
section
variable {w : World} {B g : Nat} {L : List Ty}
theorem bits_spec (h : Table w B g L) {s : Sl} {l : List Int} (hs : Rd w 1 s (iv l)) (hm : l.length ≤ 60) : Calls Try.prog 44 #[.pointer (some ⟨g, 0, none⟩), .slice s.a s.n s.c] w fun e w' =>
    e = .returned (.int .u64 (bitsT L l 0 : Nat)) ∧ w' = w := by
  refine vc_44 _ _ _ _ ?_
  have hl := hs.leni
  simp only [eq_self, false_or, or_false, true_and, and_true, decide_eq_true_eq, decide_eq_false_iff_not, gd_st, gd_sf, exists_eq_left', exists_eq_left, Option.some.injEq, Sl.eta, Nat.reduceLeDiff, Int.reduceLE, Int.reduceLT, Int.reduceEq, Int.reduceNe, Nat.reduceMul, Nat.reduceAdd, Nat.reduceSub, Int.toNat_natCast, beq_iff_eq, bne_iff_ne, beq_eq_false_iff_ne, bne_eq_false_iff_eq, pick_and, pick_or, Bool.and_eq_true, Bool.or_eq_true, Bool.and_eq_false_iff, Bool.or_eq_false_iff, ne_eq, not_false_eq_true, Bool.not_eq_true', Bool.not_eq_false', reduceCtorEq, Nat.le_refl, Nat.zero_mul, Nat.mul_one, Nat.zero_add, Int.reduceToNat, ones, one, add_mk, Decidable.not_not, cond_true, cond_false, true_implies, false_implies, implies_true, Bool.not_true, Bool.not_false]
  refine ⟨fun b n w' => ∃ c : Nat, b = c ∧ c < 18446744073709551616 ∧ 0 ≤ n ∧ n ≤ l.length ∧ w' = w ∧ bitsGo L (l.drop n.toNat) n.toNat c = bitsT L l 0, fun _ n _ => (l.length - n).toNat, ⟨0, rfl, by omega, by omega, by omega, rfl, rfl⟩, ?_⟩
  rintro _ b n w1 ⟨c, rfl, c1, n0, n1, rfl, hb⟩
  refine ⟨fun hlt => ?_, fun hge => ⟨ri ?_, rfl⟩⟩
  · obtain ⟨i, rfl⟩ : ∃ i : Nat, n = i := ⟨n.toNat, by omega⟩
    obtain ⟨p, x, hp, hx, hc⟩ := hs.intl i (by omega)
    rw [Nat.mul_one] at hc
    rw [Int.toNat_natCast] at hb ⊢
    have hd : l.drop i = x :: l.drop (i + 1) := by
      have hi : i < l.length := by omega
      rw [List.getElem?_eq_getElem hi] at hx; injection hx with hx
      rw [← hx]; exact List.drop_eq_getElem_cons hi
    rw [hd, bitsGo] at hb
    refine ⟨n0, hlt, p, hp, x, hc, ⟨(ref_spec h x).mono ?_⟩⟩
    rintro e w2 ⟨rfl, rfl⟩
    refine ⟨_, rfl, fun hr => ⟨n0, ⟨c ||| 2 ^ i, ?_, ?_, ?_, ?_, rfl, ?_⟩, ?_⟩, fun hr => ⟨⟨c, rfl, c1, ?_, ?_, rfl, ?_⟩, ?_⟩⟩
    · have hp : 2 ^ i < 18446744073709551616 := by
        have : 2 ^ i ≤ 2 ^ 63 := Nat.pow_le_pow_right (by omega) (by omega)
        omega
      have := shl_u64 1 i (by omega)
      rw [show ((1 : Nat) : Int) = 1 from rfl] at this
      rw [this, Nat.one_mul, Nat.mod_eq_of_lt hp, or_u64 _ _ c1 hp]
    · have hp : 2 ^ i ≤ 2 ^ 63 := Nat.pow_le_pow_right (by omega) (by omega)
      exact Nat.or_lt_two_pow (n := 64) (by omega) (by omega)
    · (first | (rw [wrap_i64 (by omega) (by omega)]; omega) | (dsimp only; rw [wrap_i64 (by omega) (by omega)]; omega) | (dsimp only; omega))
    · (first | (rw [wrap_i64 (by omega) (by omega)]; omega) | (dsimp only; rw [wrap_i64 (by omega) (by omega)]; omega) | (dsimp only; omega))
    · rw [wrap_i64 (by omega) (by omega), show ((i : Int) + 1).toNat = i + 1 by omega, ← hb, if_pos hr]
    · (first | (rw [wrap_i64 (by omega) (by omega)]; omega) | (dsimp only; rw [wrap_i64 (by omega) (by omega)]; omega) | (dsimp only; omega))
    · (first | (rw [wrap_i64 (by omega) (by omega)]; omega) | (dsimp only; rw [wrap_i64 (by omega) (by omega)]; omega) | (dsimp only; omega))
    · (first | (rw [wrap_i64 (by omega) (by omega)]; omega) | (dsimp only; rw [wrap_i64 (by omega) (by omega)]; omega) | (dsimp only; omega))
    · rw [wrap_i64 (by omega) (by omega), show ((i : Int) + 1).toNat = i + 1 by omega, ← hb, if_neg (by rw [hr]; decide)]
    · (first | (rw [wrap_i64 (by omega) (by omega)]; omega) | (dsimp only; rw [wrap_i64 (by omega) (by omega)]; omega) | (dsimp only; omega))
  · rw [List.drop_eq_nil_of_le (by omega)] at hb
    rw [← hb]; rfl
theorem record_spec (h : Table w B g L) (n : Int) : Calls Try.prog 26 #[.pointer (some ⟨g, 0, none⟩), .int .i64 n] w fun e w' =>
    e = .returned (.tuple #[hdV (recordT L n).1, .bool (recordT L n).2]) ∧ Ext w w' := by
  refine vc_26 _ _ _ _ ?_
  simp only [eq_self, false_or, or_false, true_and, and_true, decide_eq_true_eq, decide_eq_false_iff_not, gd_st, gd_sf, exists_eq_left', exists_eq_left, Option.some.injEq, Sl.eta, Nat.reduceLeDiff, Int.reduceLE, Int.reduceLT, Int.reduceEq, Int.reduceNe, Nat.reduceMul, Nat.reduceAdd, Nat.reduceSub, Int.toNat_natCast, beq_iff_eq, bne_iff_ne, beq_eq_false_iff_ne, bne_eq_false_iff_eq, pick_and, pick_or, Bool.and_eq_true, Bool.or_eq_true, Bool.and_eq_false_iff, Bool.or_eq_false_iff, ne_eq, not_false_eq_true, Bool.not_eq_true', Bool.not_eq_false', reduceCtorEq, Nat.le_refl, Nat.zero_mul, Nat.mul_one, Nat.zero_add, Int.reduceToNat, ones, one, add_mk, Decidable.not_not, cond_true, cond_false, true_implies, false_implies, implies_true, Bool.not_true, Bool.not_false]
  intro w1 n1
  have x1 := n1.ext
  have h1 := h.ext x1
  have k1 := Blk.new n1
  refine ⟨(kind_spec h1 n).mono ?_⟩
  rintro e w2 ⟨rfl, rfl⟩
  refine ⟨_, rfl, fun hk => ?_, fun hk => ?_⟩
  · refine ⟨k1.canSetN 0 4 (by simp), fun w3 s3 => ?_⟩
    have k3 := hd_set k1 s3
    simp only [k3.cell, List.getElem?_cons_zero, List.getElem?_cons_succ, ex_sl, Value.int.injEq, Value.bool.injEq, Value.pointer.injEq, Value.string.injEq, eq_self, false_or, or_false, true_and, and_true, decide_eq_true_eq, decide_eq_false_iff_not, gd_st, gd_sf, exists_eq_left', exists_eq_left, Option.some.injEq, Sl.eta, Nat.reduceLeDiff, Int.reduceLE, Int.reduceLT, Int.reduceEq, Int.reduceNe, Nat.reduceMul, Nat.reduceAdd, Nat.reduceSub, Int.toNat_natCast, beq_iff_eq, bne_iff_ne, beq_eq_false_iff_ne, bne_eq_false_iff_eq, pick_and, pick_or, Bool.and_eq_true, Bool.or_eq_true, Bool.and_eq_false_iff, Bool.or_eq_false_iff, ne_eq, not_false_eq_true, Bool.not_eq_true', Bool.not_eq_false', reduceCtorEq, Nat.le_refl, Nat.zero_mul, Nat.mul_one, Nat.zero_add, Int.reduceToNat, ones, one, add_mk, Decidable.not_not, cond_true, cond_false, true_implies, false_implies, implies_true, Bool.not_true, Bool.not_false]
    refine ⟨_, _, _, _, rfl, ⟨rfl, rfl, rfl, rfl⟩, ?_, x1.fresh s3.upd (by rintro i rfl; exact Nat.le_refl _)⟩
    rw [recordT, if_neg hk]; rfl
  · obtain ⟨T, sa, sl, c, ht, l1, l2, hr, hat⟩ := h1.at_
    have hd := ht.hd
    have hb : 0 ≤ n ∧ n < L.length + 2 := Classical.byContradiction fun hb => by
      have := (not_at hb hr).1; omega
    obtain ⟨t, p, pl, htt, hx, hp, hc, _, _⟩ := hat n hb.1 hb.2
    have c0 := hc 1 _ rfl
    simp only [hd.cell, List.getElem?_cons_zero, List.getElem?_cons_succ, ex_sl, Value.int.injEq, Value.bool.injEq, Value.pointer.injEq, Value.string.injEq, eq_self, false_or, or_false, true_and, and_true, decide_eq_true_eq, decide_eq_false_iff_not, gd_st, gd_sf, exists_eq_left', exists_eq_left, Option.some.injEq, Sl.eta, Nat.reduceLeDiff, Int.reduceLE, Int.reduceLT, Int.reduceEq, Int.reduceNe, Nat.reduceMul, Nat.reduceAdd, Nat.reduceSub, Int.toNat_natCast, beq_iff_eq, bne_iff_ne, beq_eq_false_iff_ne, bne_eq_false_iff_eq, pick_and, pick_or, Bool.and_eq_true, Bool.or_eq_true, Bool.and_eq_false_iff, Bool.or_eq_false_iff, ne_eq, not_false_eq_true, Bool.not_eq_true', Bool.not_eq_false', reduceCtorEq, Nat.le_refl, Nat.zero_mul, Nat.mul_one, Nat.zero_add, Int.reduceToNat, ones, one, add_mk, Decidable.not_not, cond_true, cond_false, true_implies, false_implies, implies_true, Bool.not_true, Bool.not_false]
    (repeat' (first | refine ⟨_, by assumption, ?_⟩ | refine ⟨by omega, ?_⟩ | refine ⟨by assumption, ?_⟩ | fail))
    have ha := all_at hr hb.1 hx
    have hok := (hr.all t.1 (List.mem_of_getElem? hx)).few
    have hlen := (ht.ty.tys.parts t (List.mem_of_getElem? htt)).leni
    refine ⟨(bits_spec h1 (ht.ty.tys.parts t (List.mem_of_getElem? htt)) (by omega)).mono ?_⟩
    rintro e w3 ⟨rfl, rfl⟩
    refine ⟨_, rfl, by simp [len', wr], by simp [len', wr], by simp [len', wr], k1.canSetN 0 4 (by simp), fun w4 s4 => ?_⟩
    have k4 := hd_set k1 s4
    simp only [k4.cell, List.getElem?_cons_zero, List.getElem?_cons_succ, ex_sl, Value.int.injEq, Value.bool.injEq, Value.pointer.injEq, Value.string.injEq, eq_self, false_or, or_false, true_and, and_true, decide_eq_true_eq, decide_eq_false_iff_not, gd_st, gd_sf, exists_eq_left', exists_eq_left, Option.some.injEq, Sl.eta, Nat.reduceLeDiff, Int.reduceLE, Int.reduceLT, Int.reduceEq, Int.reduceNe, Nat.reduceMul, Nat.reduceAdd, Nat.reduceSub, Int.toNat_natCast, beq_iff_eq, bne_iff_ne, beq_eq_false_iff_ne, bne_eq_false_iff_eq, pick_and, pick_or, Bool.and_eq_true, Bool.or_eq_true, Bool.and_eq_false_iff, Bool.or_eq_false_iff, ne_eq, not_false_eq_true, Bool.not_eq_true', Bool.not_eq_false', reduceCtorEq, Nat.le_refl, Nat.zero_mul, Nat.mul_one, Nat.zero_add, Int.reduceToNat, ones, one, add_mk, Decidable.not_not, cond_true, cond_false, true_implies, false_implies, implies_true, Bool.not_true, Bool.not_false]
    refine ⟨_, _, _, _, rfl, ⟨rfl, rfl, rfl, rfl⟩, ?_, x1.fresh s4.upd (by rintro i rfl; exact Nat.le_refl _)⟩
    rw [recordT, if_pos hk, ha.2.2.1, hlen]; rfl
theorem array_spec (h : Table w B g L) (n size : Int) : Calls Try.prog 28 #[.pointer (some ⟨g, 0, none⟩), .int .i64 n, .int .i64 size] w fun e w' =>
    e = .returned (.tuple #[hdV (arrayT L n size).1, .bool (arrayT L n size).2]) ∧ Ext w w' := by
  refine vc_28 _ _ _ _ _ ?_
  simp only [eq_self, false_or, or_false, true_and, and_true, decide_eq_true_eq, decide_eq_false_iff_not, gd_st, gd_sf, exists_eq_left', exists_eq_left, Option.some.injEq, Sl.eta, Nat.reduceLeDiff, Int.reduceLE, Int.reduceLT, Int.reduceEq, Int.reduceNe, Nat.reduceMul, Nat.reduceAdd, Nat.reduceSub, Int.toNat_natCast, beq_iff_eq, bne_iff_ne, beq_eq_false_iff_ne, bne_eq_false_iff_eq, pick_and, pick_or, Bool.and_eq_true, Bool.or_eq_true, Bool.and_eq_false_iff, Bool.or_eq_false_iff, ne_eq, not_false_eq_true, Bool.not_eq_true', Bool.not_eq_false', reduceCtorEq, Nat.le_refl, Nat.zero_mul, Nat.mul_one, Nat.zero_add, Int.reduceToNat, ones, one, add_mk, Decidable.not_not, cond_true, cond_false, true_implies, false_implies, implies_true, Bool.not_true, Bool.not_false]
  intro w1 n1
  have x1 := n1.ext
  have h1 := h.ext x1
  have k1 := Blk.new n1
  refine ⟨(kind_spec h1 n).mono ?_⟩
  rintro e w2 ⟨rfl, rfl⟩
  have out : ∀ w3, SetW w2 ⟨w.heap.size, 0, none⟩ [.int .i64 0, .int .i64 0, .int .i64 0, .int .u64 0] w3 → Blk w3 w.heap.size 50 [.int .i64 0, .int .i64 0, .int .i64 0, .int .u64 0] ∧ Ext w w3 :=
    fun w3 s3 => ⟨hd_set k1 s3, x1.fresh s3.upd (by rintro i rfl; exact Nat.le_refl _)⟩
  refine ⟨_, rfl, fun hk => ⟨fun h0 => ⟨fun hm => ?_, fun hm => ?_⟩, fun h0 => ?_⟩, fun hk => ?_⟩
  rotate_left
  · obtain ⟨T, sa, sl, c, ht, l1, l2, hr, hat⟩ := h1.at_
    have hd := ht.hd
    have hb : 0 ≤ n ∧ n < L.length + 2 := Classical.byContradiction fun hb => by
      have := (not_at hb hr).1; omega
    obtain ⟨t, p, pl, htt, hx, hp, hc, _, _⟩ := hat n hb.1 hb.2
    have c0 := hc 2 _ rfl
    simp only [hd.cell, List.getElem?_cons_zero, List.getElem?_cons_succ, ex_sl, Value.int.injEq, Value.bool.injEq, Value.pointer.injEq, Value.string.injEq, eq_self, false_or, or_false, true_and, and_true, decide_eq_true_eq, decide_eq_false_iff_not, gd_st, gd_sf, exists_eq_left', exists_eq_left, Option.some.injEq, Sl.eta, Nat.reduceLeDiff, Int.reduceLE, Int.reduceLT, Int.reduceEq, Int.reduceNe, Nat.reduceMul, Nat.reduceAdd, Nat.reduceSub, Int.toNat_natCast, beq_iff_eq, bne_iff_ne, beq_eq_false_iff_ne, bne_eq_false_iff_eq, pick_and, pick_or, Bool.and_eq_true, Bool.or_eq_true, Bool.and_eq_false_iff, Bool.or_eq_false_iff, ne_eq, not_false_eq_true, Bool.not_eq_true', Bool.not_eq_false', reduceCtorEq, Nat.le_refl, Nat.zero_mul, Nat.mul_one, Nat.zero_add, Int.reduceToNat, ones, one, add_mk, Decidable.not_not, cond_true, cond_false, true_implies, false_implies, implies_true, Bool.not_true, Bool.not_false]
    (repeat' (first | refine ⟨_, by assumption, ?_⟩ | refine ⟨by omega, ?_⟩ | refine ⟨by assumption, ?_⟩ | fail))
    have ha := all_at hr hb.1 hx
    have hof : ofT L n = t.1.of := by rw [ha.2.2.2, if_neg (by omega)]
    refine ⟨(ref_spec h1 t.1.of).mono ?_⟩
    rintro e w3 ⟨rfl, rfl⟩
    refine ⟨_, rfl, fun hf => ⟨by simp [len', wr], by simp [len', wr], k1.canSetN 0 4 (by simp), fun w4 s4 => ?_⟩, fun hf => ⟨by simp [len', wr], by simp [len', wr], k1.canSetN 0 4 (by simp), fun w4 s4 => ?_⟩⟩
    · have k4 := hd_set k1 s4
      simp only [k4.cell, List.getElem?_cons_zero, List.getElem?_cons_succ, ex_sl, Value.int.injEq, Value.bool.injEq, Value.pointer.injEq, Value.string.injEq, eq_self, false_or, or_false, true_and, and_true, decide_eq_true_eq, decide_eq_false_iff_not, gd_st, gd_sf, exists_eq_left', exists_eq_left, Option.some.injEq, Sl.eta, Nat.reduceLeDiff, Int.reduceLE, Int.reduceLT, Int.reduceEq, Int.reduceNe, Nat.reduceMul, Nat.reduceAdd, Nat.reduceSub, Int.toNat_natCast, beq_iff_eq, bne_iff_ne, beq_eq_false_iff_ne, bne_eq_false_iff_eq, pick_and, pick_or, Bool.and_eq_true, Bool.or_eq_true, Bool.and_eq_false_iff, Bool.or_eq_false_iff, ne_eq, not_false_eq_true, Bool.not_eq_true', Bool.not_eq_false', reduceCtorEq, Nat.le_refl, Nat.zero_mul, Nat.mul_one, Nat.zero_add, Int.reduceToNat, ones, one, add_mk, Decidable.not_not, cond_true, cond_false, true_implies, false_implies, implies_true, Bool.not_true, Bool.not_false]
      refine ⟨_, _, _, _, rfl, ⟨rfl, rfl, rfl, rfl⟩, ?_, x1.fresh s4.upd (by rintro i rfl; exact Nat.le_refl _)⟩
      rw [arrayT, if_pos (by omega), hof, if_pos hf]; rfl
    · have k4 := hd_set k1 s4
      simp only [k4.cell, List.getElem?_cons_zero, List.getElem?_cons_succ, ex_sl, Value.int.injEq, Value.bool.injEq, Value.pointer.injEq, Value.string.injEq, eq_self, false_or, or_false, true_and, and_true, decide_eq_true_eq, decide_eq_false_iff_not, gd_st, gd_sf, exists_eq_left', exists_eq_left, Option.some.injEq, Sl.eta, Nat.reduceLeDiff, Int.reduceLE, Int.reduceLT, Int.reduceEq, Int.reduceNe, Nat.reduceMul, Nat.reduceAdd, Nat.reduceSub, Int.toNat_natCast, beq_iff_eq, bne_iff_ne, beq_eq_false_iff_ne, bne_eq_false_iff_eq, pick_and, pick_or, Bool.and_eq_true, Bool.or_eq_true, Bool.and_eq_false_iff, Bool.or_eq_false_iff, ne_eq, not_false_eq_true, Bool.not_eq_true', Bool.not_eq_false', reduceCtorEq, Nat.le_refl, Nat.zero_mul, Nat.mul_one, Nat.zero_add, Int.reduceToNat, ones, one, add_mk, Decidable.not_not, cond_true, cond_false, true_implies, false_implies, implies_true, Bool.not_true, Bool.not_false]
      refine ⟨_, _, _, _, rfl, ⟨rfl, rfl, rfl, rfl⟩, ?_, x1.fresh s4.upd (by rintro i rfl; exact Nat.le_refl _)⟩
      rw [arrayT, if_pos (by omega), hof, if_neg (by rw [hf]; decide)]; rfl
  all_goals
    refine ⟨k1.canSetN 0 4 (by simp), fun w3 s3 => ?_⟩
    obtain ⟨k3, x3⟩ := out w3 s3
    simp only [k3.cell, List.getElem?_cons_zero, List.getElem?_cons_succ, ex_sl, Value.int.injEq, Value.bool.injEq, Value.pointer.injEq, Value.string.injEq, eq_self, false_or, or_false, true_and, and_true, decide_eq_true_eq, decide_eq_false_iff_not, gd_st, gd_sf, exists_eq_left', exists_eq_left, Option.some.injEq, Sl.eta, Nat.reduceLeDiff, Int.reduceLE, Int.reduceLT, Int.reduceEq, Int.reduceNe, Nat.reduceMul, Nat.reduceAdd, Nat.reduceSub, Int.toNat_natCast, beq_iff_eq, bne_iff_ne, beq_eq_false_iff_ne, bne_eq_false_iff_eq, pick_and, pick_or, Bool.and_eq_true, Bool.or_eq_true, Bool.and_eq_false_iff, Bool.or_eq_false_iff, ne_eq, not_false_eq_true, Bool.not_eq_true', Bool.not_eq_false', reduceCtorEq, Nat.le_refl, Nat.zero_mul, Nat.mul_one, Nat.zero_add, Int.reduceToNat, ones, one, add_mk, Decidable.not_not, cond_true, cond_false, true_implies, false_implies, implies_true, Bool.not_true, Bool.not_false]
    refine ⟨_, _, _, _, rfl, ⟨rfl, rfl, rfl, rfl⟩, ?_, x3⟩
    rw [arrayT, if_neg (by omega)]; rfl
theorem clo1_spec (h : Table w B g L) {b : Nat} (hb : Blk w b 31 [.pointer (some ⟨g, 0, none⟩)]) (n : Int) : Calls Try.prog 47 #[.int .i64 n, .pointer (some ⟨b, 0, none⟩)] w fun e w' =>
    e = .returned (.bool (!decide (0 ≤ n ∧ n < L.length + 2))) ∧ w' = w := by
  refine vc_47 _ _ _ _ ?_
  simp only [eq_self, false_or, or_false, true_and, and_true, decide_eq_true_eq, decide_eq_false_iff_not, gd_st, gd_sf, exists_eq_left', exists_eq_left, Option.some.injEq, Sl.eta, Nat.reduceLeDiff, Int.reduceLE, Int.reduceLT, Int.reduceEq, Int.reduceNe, Nat.reduceMul, Nat.reduceAdd, Nat.reduceSub, Int.toNat_natCast, beq_iff_eq, bne_iff_ne, beq_eq_false_iff_ne, bne_eq_false_iff_eq, pick_and, pick_or, Bool.and_eq_true, Bool.or_eq_true, Bool.and_eq_false_iff, Bool.or_eq_false_iff, ne_eq, not_false_eq_true, Bool.not_eq_true', Bool.not_eq_false', reduceCtorEq, Nat.le_refl, Nat.zero_mul, Nat.mul_one, Nat.zero_add, Int.reduceToNat, ones, one, add_mk, Decidable.not_not, cond_true, cond_false, true_implies, false_implies, implies_true, Bool.not_true, Bool.not_false]
  simp only [hb.cell, List.getElem?_cons_zero, List.getElem?_cons_succ, ex_sl, Value.int.injEq, Value.bool.injEq, Value.pointer.injEq, Value.string.injEq, eq_self, false_or, or_false, true_and, and_true, decide_eq_true_eq, decide_eq_false_iff_not, gd_st, gd_sf, exists_eq_left', exists_eq_left, Option.some.injEq, Sl.eta, Nat.reduceLeDiff, Int.reduceLE, Int.reduceLT, Int.reduceEq, Int.reduceNe, Nat.reduceMul, Nat.reduceAdd, Nat.reduceSub, Int.toNat_natCast, beq_iff_eq, bne_iff_ne, beq_eq_false_iff_ne, bne_eq_false_iff_eq, pick_and, pick_or, Bool.and_eq_true, Bool.or_eq_true, Bool.and_eq_false_iff, Bool.or_eq_false_iff, ne_eq, not_false_eq_true, Bool.not_eq_true', Bool.not_eq_false', reduceCtorEq, Nat.le_refl, Nat.zero_mul, Nat.mul_one, Nat.zero_add, Int.reduceToNat, ones, one, add_mk, Decidable.not_not, cond_true, cond_false, true_implies, false_implies, implies_true, Bool.not_true, Bool.not_false]
  refine ⟨(has_spec h n).mono ?_⟩
  rintro e w' ⟨rfl, rfl⟩
  exact ⟨_, rfl, rfl, rfl⟩
theorem index47_spec (h : Table w B g L) {b : Nat} (hb : Blk w b 31 [.pointer (some ⟨g, 0, none⟩)]) {s : Sl} {l : List Int} (hs : Rd w 1 s (iv l)) (hm : l.length ≤ 1000) :
    Calls Try.prog 56 #[.slice s.a s.n s.c, .func (.func 47) #[] #[.pointer (some ⟨b, 0, none⟩)]] w fun e w' =>
      ∃ r : Int, e = .returned (.int .i64 r) ∧ (0 ≤ r ↔ ∃ x ∈ l, ¬ (0 ≤ x ∧ x < L.length + 2)) ∧ w' = w := by
  refine vc_56 _ _ _ _ ?_
  have hl := hs.leni
  simp only [eq_self, false_or, or_false, true_and, and_true, decide_eq_true_eq, decide_eq_false_iff_not, gd_st, gd_sf, exists_eq_left', exists_eq_left, Option.some.injEq, Sl.eta, Nat.reduceLeDiff, Int.reduceLE, Int.reduceLT, Int.reduceEq, Int.reduceNe, Nat.reduceMul, Nat.reduceAdd, Nat.reduceSub, Int.toNat_natCast, beq_iff_eq, bne_iff_ne, beq_eq_false_iff_ne, bne_eq_false_iff_eq, pick_and, pick_or, Bool.and_eq_true, Bool.or_eq_true, Bool.and_eq_false_iff, Bool.or_eq_false_iff, ne_eq, not_false_eq_true, Bool.not_eq_true', Bool.not_eq_false', reduceCtorEq, Nat.le_refl, Nat.zero_mul, Nat.mul_one, Nat.zero_add, Int.reduceToNat, ones, one, add_mk, Decidable.not_not, cond_true, cond_false, true_implies, false_implies, implies_true, Bool.not_true, Bool.not_false]
  refine ⟨fun n w' => 0 ≤ n ∧ n ≤ l.length ∧ w' = w ∧ ∀ (j : Nat) (x : Int), j < n.toNat → l[j]? = some x → (0 ≤ x ∧ x < L.length + 2), fun n _ => (l.length - n).toNat, ⟨by omega, by omega, rfl, fun j x hj => by simp at hj⟩, ?_⟩
  rintro _ n w1 ⟨n0, n1, rfl, hn⟩
  refine ⟨fun hlt => ?_, fun hge => ⟨-1, rfl, ⟨fun h => by omega, fun ⟨x, hx, hnx⟩ => ?_⟩, rfl⟩⟩
  · obtain ⟨p, x, hp, hx, hc⟩ := hs.intl n.toNat (by omega)
    rw [Nat.mul_one] at hc
    refine ⟨n0, hlt, p, hp, x, hc, ⟨(clo1_spec h hb x).mono ?_⟩⟩
    rintro e w2 ⟨rfl, rfl⟩
    refine ⟨_, rfl, fun hh => ⟨n, rfl, ⟨fun _ => ⟨x, List.mem_of_getElem? hx, ?_⟩, fun _ => n0⟩, rfl⟩, fun hh => ⟨⟨?_, ?_, rfl, ?_⟩, ?_⟩⟩
    · exact decide_eq_false_iff_not.1 (by simpa only [Bool.not_eq_true'] using hh)
    · (first | (rw [wrap_i64 (by omega) (by omega)]; omega) | (dsimp only; rw [wrap_i64 (by omega) (by omega)]; omega) | (dsimp only; omega))
    · (first | (rw [wrap_i64 (by omega) (by omega)]; omega) | (dsimp only; rw [wrap_i64 (by omega) (by omega)]; omega) | (dsimp only; omega))
    · rw [wrap_i64 (by omega) (by omega)]
      intro j y hj hy
      by_cases e : j = n.toNat
      · subst e; rw [hx] at hy; injection hy with hy; subst hy; exact of_decide_eq_true (by simpa using hh)
      · exact hn j y (by omega) hy
    · (first | (rw [wrap_i64 (by omega) (by omega)]; omega) | (dsimp only; rw [wrap_i64 (by omega) (by omega)]; omega) | (dsimp only; omega))
  · obtain ⟨j, hj, rfl⟩ := List.getElem_of_mem hx
    exact (hnx (hn j _ (by omega) (List.getElem?_eq_getElem hj))).elim
theorem contains_spec (h : Table w B g L) {b : Nat} (hb : Blk w b 31 [.pointer (some ⟨g, 0, none⟩)]) {s : Sl} {l : List Int} (hs : Rd w 1 s (iv l)) (hm : l.length ≤ 1000) :
    Calls Try.prog 46 #[.slice s.a s.n s.c, .func (.func 47) #[] #[.pointer (some ⟨b, 0, none⟩)]] w fun e w' =>
      ∃ r : Bool, e = .returned (.bool r) ∧ (r = true ↔ ∃ x ∈ l, ¬ (0 ≤ x ∧ x < L.length + 2)) ∧ w' = w := by
  refine vc_46 _ _ _ _ ?_
  simp only [eq_self, false_or, or_false, true_and, and_true, decide_eq_true_eq, decide_eq_false_iff_not, gd_st, gd_sf, exists_eq_left', exists_eq_left, Option.some.injEq, Sl.eta, Nat.reduceLeDiff, Int.reduceLE, Int.reduceLT, Int.reduceEq, Int.reduceNe, Nat.reduceMul, Nat.reduceAdd, Nat.reduceSub, Int.toNat_natCast, beq_iff_eq, bne_iff_ne, beq_eq_false_iff_ne, bne_eq_false_iff_eq, pick_and, pick_or, Bool.and_eq_true, Bool.or_eq_true, Bool.and_eq_false_iff, Bool.or_eq_false_iff, ne_eq, not_false_eq_true, Bool.not_eq_true', Bool.not_eq_false', reduceCtorEq, Nat.le_refl, Nat.zero_mul, Nat.mul_one, Nat.zero_add, Int.reduceToNat, ones, one, add_mk, Decidable.not_not, cond_true, cond_false, true_implies, false_implies, implies_true, Bool.not_true, Bool.not_false]
  refine ⟨(index47_spec h hb hs hm).mono ?_⟩
  rintro e w1 ⟨r, rfl, hr, rfl⟩
  exact ⟨r, rfl, _, rfl, by rw [decide_eq_true_eq]; exact hr, rfl⟩
theorem kind_neg {L : List Ty} (hr : Right L) (x : Int) : kindT L x < 0 ↔ ¬ (0 ≤ x ∧ x < L.length + 2) := by
  constructor
  · intro h hb
    have hi : x.toNat < (allT L).length := by have := allT_len L; omega
    have ha := all_at hr hb.1 (List.getElem?_eq_getElem hi)
    have := (hr.all _ (List.getElem_mem hi)).kind
    omega
  · intro h
    rw [(not_at h hr).1]; decide
theorem closure_spec (h : Table w B g L) (n : Int) {s : Sl} {l : List Int} (hs : Rd w 1 s (iv l)) (hm : l.length ≤ 1000000000000000) :
    Calls Try.prog 30 #[.pointer (some ⟨g, 0, none⟩), .int .i64 n, .slice s.a s.n s.c] w fun e w' =>
    e = .returned (.tuple #[hdV (closureT L n l).1, .bool (closureT L n l).2]) ∧ Ext w w' := by
  refine vc_30 _ _ _ _ _ ?_
  have hl := hs.leni
  have hr : Right L := by obtain ⟨_, _, _, _, _, _, hr, _⟩ := h; exact hr
  simp only [eq_self, false_or, or_false, true_and, and_true, decide_eq_true_eq, decide_eq_false_iff_not, gd_st, gd_sf, exists_eq_left', exists_eq_left, Option.some.injEq, Sl.eta, Nat.reduceLeDiff, Int.reduceLE, Int.reduceLT, Int.reduceEq, Int.reduceNe, Nat.reduceMul, Nat.reduceAdd, Nat.reduceSub, Int.toNat_natCast, beq_iff_eq, bne_iff_ne, beq_eq_false_iff_ne, bne_eq_false_iff_eq, pick_and, pick_or, Bool.and_eq_true, Bool.or_eq_true, Bool.and_eq_false_iff, Bool.or_eq_false_iff, ne_eq, not_false_eq_true, Bool.not_eq_true', Bool.not_eq_false', reduceCtorEq, Nat.le_refl, Nat.zero_mul, Nat.mul_one, Nat.zero_add, Int.reduceToNat, ones, one, add_mk, Decidable.not_not, cond_true, cond_false, true_implies, false_implies, implies_true, Bool.not_true, Bool.not_false]
  intro w1 n1 w2 n2
  have b2 := (Blk.new n1).ext n2.ext
  have k2 := Blk.new n2
  have x2 : Ext w w2 := n1.ext.trans n2.ext
  have h2 := h.ext x2
  have hne := b2.ne k2 (by decide)
  simp only [b2.cell, List.getElem?_cons_zero, List.getElem?_cons_succ, ex_sl, Value.int.injEq, Value.bool.injEq, Value.pointer.injEq, Value.string.injEq, eq_self, false_or, or_false, true_and, and_true, decide_eq_true_eq, decide_eq_false_iff_not, gd_st, gd_sf, exists_eq_left', exists_eq_left, Option.some.injEq, Sl.eta, Nat.reduceLeDiff, Int.reduceLE, Int.reduceLT, Int.reduceEq, Int.reduceNe, Nat.reduceMul, Nat.reduceAdd, Nat.reduceSub, Int.toNat_natCast, beq_iff_eq, bne_iff_ne, beq_eq_false_iff_ne, bne_eq_false_iff_eq, pick_and, pick_or, Bool.and_eq_true, Bool.or_eq_true, Bool.and_eq_false_iff, Bool.or_eq_false_iff, ne_eq, not_false_eq_true, Bool.not_eq_true', Bool.not_eq_false', reduceCtorEq, Nat.le_refl, Nat.zero_mul, Nat.mul_one, Nat.zero_add, Int.reduceToNat, ones, one, add_mk, Decidable.not_not, cond_true, cond_false, true_implies, false_implies, implies_true, Bool.not_true, Bool.not_false]
  refine ⟨(kind_spec h2 n).mono ?_⟩
  rintro e w3 ⟨rfl, rfl⟩
  have x1 : Ext w w1 := n1.ext
  have fin : ∀ {k t l' : Int} {r : Int} w4, SetW w3 ⟨w1.heap.size, 0, none⟩ [.int .i64 k, .int .i64 t, .int .i64 l', .int .u64 r] w4 → Blk w4 w1.heap.size 50 [.int .i64 k, .int .i64 t, .int .i64 l', .int .u64 r] ∧ Ext w w4 :=
    fun w4 s4 => ⟨hd_set k2 s4, x2.fresh s4.upd (by rintro i rfl; exact x1.size)⟩
  refine ⟨_, rfl, fun hk => ⟨fun h0 => ?_, fun h0 => ?_⟩, fun hk => ?_⟩
  · refine ⟨(contains_spec h2 b2 (hs.ext x2) (by omega)).mono ?_⟩
    rintro e w4 ⟨r, rfl, hc, rfl⟩
    refine ⟨_, rfl, fun hb => ⟨k2.canSetN 0 4 (by simp), fun w5 s5 => ?_⟩, fun hb => ?_⟩
    · obtain ⟨k5, x5⟩ := fin w5 s5
      simp only [k5.cell, List.getElem?_cons_zero, List.getElem?_cons_succ, ex_sl, Value.int.injEq, Value.bool.injEq, Value.pointer.injEq, Value.string.injEq, eq_self, false_or, or_false, true_and, and_true, decide_eq_true_eq, decide_eq_false_iff_not, gd_st, gd_sf, exists_eq_left', exists_eq_left, Option.some.injEq, Sl.eta, Nat.reduceLeDiff, Int.reduceLE, Int.reduceLT, Int.reduceEq, Int.reduceNe, Nat.reduceMul, Nat.reduceAdd, Nat.reduceSub, Int.toNat_natCast, beq_iff_eq, bne_iff_ne, beq_eq_false_iff_ne, bne_eq_false_iff_eq, pick_and, pick_or, Bool.and_eq_true, Bool.or_eq_true, Bool.and_eq_false_iff, Bool.or_eq_false_iff, ne_eq, not_false_eq_true, Bool.not_eq_true', Bool.not_eq_false', reduceCtorEq, Nat.le_refl, Nat.zero_mul, Nat.mul_one, Nat.zero_add, Int.reduceToNat, ones, one, add_mk, Decidable.not_not, cond_true, cond_false, true_implies, false_implies, implies_true, Bool.not_true, Bool.not_false]
      refine ⟨_, _, _, _, rfl, ⟨rfl, rfl, rfl, rfl⟩, ?_, x5⟩
      obtain ⟨x, hx, hnx⟩ := hc.1 hb
      rw [closureT, if_neg]
      · rfl
      · rintro ⟨_, _, hall⟩
        have := hall x hx
        have := (kind_neg hr x).2 hnx
        omega
    · simp only [b2.cell, List.getElem?_cons_zero, List.getElem?_cons_succ, ex_sl, Value.int.injEq, Value.bool.injEq, Value.pointer.injEq, Value.string.injEq, eq_self, false_or, or_false, true_and, and_true, decide_eq_true_eq, decide_eq_false_iff_not, gd_st, gd_sf, exists_eq_left', exists_eq_left, Option.some.injEq, Sl.eta, Nat.reduceLeDiff, Int.reduceLE, Int.reduceLT, Int.reduceEq, Int.reduceNe, Nat.reduceMul, Nat.reduceAdd, Nat.reduceSub, Int.toNat_natCast, beq_iff_eq, bne_iff_ne, beq_eq_false_iff_ne, bne_eq_false_iff_eq, pick_and, pick_or, Bool.and_eq_true, Bool.or_eq_true, Bool.and_eq_false_iff, Bool.or_eq_false_iff, ne_eq, not_false_eq_true, Bool.not_eq_true', Bool.not_eq_false', reduceCtorEq, Nat.le_refl, Nat.zero_mul, Nat.mul_one, Nat.zero_add, Int.reduceToNat, ones, one, add_mk, Decidable.not_not, cond_true, cond_false, true_implies, false_implies, implies_true, Bool.not_true, Bool.not_false]
      refine ⟨(bits_spec h2 (hs.ext x2) (by omega)).mono ?_⟩
      rintro e w5 ⟨rfl, rfl⟩
      refine ⟨_, rfl, by simp [len', wr], by simp [len', wr], by simp [len', wr], k2.canSetN 0 4 (by simp), fun w6 s6 => ?_⟩
      obtain ⟨k6, x6⟩ := fin w6 s6
      simp only [k6.cell, List.getElem?_cons_zero, List.getElem?_cons_succ, ex_sl, Value.int.injEq, Value.bool.injEq, Value.pointer.injEq, Value.string.injEq, eq_self, false_or, or_false, true_and, and_true, decide_eq_true_eq, decide_eq_false_iff_not, gd_st, gd_sf, exists_eq_left', exists_eq_left, Option.some.injEq, Sl.eta, Nat.reduceLeDiff, Int.reduceLE, Int.reduceLT, Int.reduceEq, Int.reduceNe, Nat.reduceMul, Nat.reduceAdd, Nat.reduceSub, Int.toNat_natCast, beq_iff_eq, bne_iff_ne, beq_eq_false_iff_ne, bne_eq_false_iff_eq, pick_and, pick_or, Bool.and_eq_true, Bool.or_eq_true, Bool.and_eq_false_iff, Bool.or_eq_false_iff, ne_eq, not_false_eq_true, Bool.not_eq_true', Bool.not_eq_false', reduceCtorEq, Nat.le_refl, Nat.zero_mul, Nat.mul_one, Nat.zero_add, Int.reduceToNat, ones, one, add_mk, Decidable.not_not, cond_true, cond_false, true_implies, false_implies, implies_true, Bool.not_true, Bool.not_false]
      refine ⟨_, _, _, _, rfl, ⟨rfl, rfl, rfl, rfl⟩, ?_, x6⟩
      rw [closureT, if_pos]
      · rw [wrap_i64 (by omega) (by omega), show ((1 : Int)) = ((1 : Nat) : Int) from rfl, shl_u64 _ 1 (by omega), bitsT_shift L l (by omega), ← hl]; rfl
      · refine ⟨hk, by omega, fun x hx => ?_⟩
        refine Int.not_lt.1 fun hlt => ?_
        rw [hc.2 ⟨x, hx, (kind_neg hr x).1 hlt⟩] at hb
        cases hb
  all_goals
    refine ⟨k2.canSetN 0 4 (by simp), fun w4 s4 => ?_⟩
    obtain ⟨k4, x4⟩ := fin w4 s4
    simp only [k4.cell, List.getElem?_cons_zero, List.getElem?_cons_succ, ex_sl, Value.int.injEq, Value.bool.injEq, Value.pointer.injEq, Value.string.injEq, eq_self, false_or, or_false, true_and, and_true, decide_eq_true_eq, decide_eq_false_iff_not, gd_st, gd_sf, exists_eq_left', exists_eq_left, Option.some.injEq, Sl.eta, Nat.reduceLeDiff, Int.reduceLE, Int.reduceLT, Int.reduceEq, Int.reduceNe, Nat.reduceMul, Nat.reduceAdd, Nat.reduceSub, Int.toNat_natCast, beq_iff_eq, bne_iff_ne, beq_eq_false_iff_ne, bne_eq_false_iff_eq, pick_and, pick_or, Bool.and_eq_true, Bool.or_eq_true, Bool.and_eq_false_iff, Bool.or_eq_false_iff, ne_eq, not_false_eq_true, Bool.not_eq_true', Bool.not_eq_false', reduceCtorEq, Nat.le_refl, Nat.zero_mul, Nat.mul_one, Nat.zero_add, Int.reduceToNat, ones, one, add_mk, Decidable.not_not, cond_true, cond_false, true_implies, false_implies, implies_true, Bool.not_true, Bool.not_false]
    refine ⟨_, _, _, _, rfl, ⟨rfl, rfl, rfl, rfl⟩, ?_, x4⟩
    rw [closureT, if_neg (by omega)]; rfl
end
theorem words_spec (k t l r : Int) (w : World) : Calls Try.prog 33 #[.agg #[.int .i64 k, .int .i64 t, .int .i64 l, .int .u64 r]] w fun e w' =>
    e = .returned (.int .i64 (IntKind.i64.wrap (l + 2))) ∧ Ext w w' := by
  refine vc_33 _ _ _ _ _ _ ?_
  simp only [eq_self, false_or, or_false, true_and, and_true, decide_eq_true_eq, decide_eq_false_iff_not, gd_st, gd_sf, exists_eq_left', exists_eq_left, Option.some.injEq, Sl.eta, Nat.reduceLeDiff, Int.reduceLE, Int.reduceLT, Int.reduceEq, Int.reduceNe, Nat.reduceMul, Nat.reduceAdd, Nat.reduceSub, Int.toNat_natCast, beq_iff_eq, bne_iff_ne, beq_eq_false_iff_ne, bne_eq_false_iff_eq, pick_and, pick_or, Bool.and_eq_true, Bool.or_eq_true, Bool.and_eq_false_iff, Bool.or_eq_false_iff, ne_eq, not_false_eq_true, Bool.not_eq_true', Bool.not_eq_false', reduceCtorEq, Nat.le_refl, Nat.zero_mul, Nat.mul_one, Nat.zero_add, Int.reduceToNat, ones, one, add_mk, Decidable.not_not, cond_true, cond_false, true_implies, false_implies, implies_true, Bool.not_true, Bool.not_false]
  intro w1 n1
  have k1 := Blk.new n1
  simp only [k1.cell, List.getElem?_cons_zero, List.getElem?_cons_succ, ex_sl, Value.int.injEq, Value.bool.injEq, Value.pointer.injEq, Value.string.injEq, eq_self, false_or, or_false, true_and, and_true, decide_eq_true_eq, decide_eq_false_iff_not, gd_st, gd_sf, exists_eq_left', exists_eq_left, Option.some.injEq, Sl.eta, Nat.reduceLeDiff, Int.reduceLE, Int.reduceLT, Int.reduceEq, Int.reduceNe, Nat.reduceMul, Nat.reduceAdd, Nat.reduceSub, Int.toNat_natCast, beq_iff_eq, bne_iff_ne, beq_eq_false_iff_ne, bne_eq_false_iff_eq, pick_and, pick_or, Bool.and_eq_true, Bool.or_eq_true, Bool.and_eq_false_iff, Bool.or_eq_false_iff, ne_eq, not_false_eq_true, Bool.not_eq_true', Bool.not_eq_false', reduceCtorEq, Nat.le_refl, Nat.zero_mul, Nat.mul_one, Nat.zero_add, Int.reduceToNat, ones, one, add_mk, Decidable.not_not, cond_true, cond_false, true_implies, false_implies, implies_true, Bool.not_true, Bool.not_false]
  exact n1.ext
end Go.Proofs.Ytiljdcopkgmcbaa.V
