/-
  Package num and what the document has for it: contracts, but for what is read of texts.
-/
import Derived.Test.YtjdiclgnimimnaaDoorVcN
import Derived.Test.YtjdiclgnimimnaaDoorVcM
import Derived.Test.YtjdiclgnimimnaaDoorShelf
import Derived.Test.YtjdiclgnimimnaaDoorRow
namespace Go.Proofs.YtjdiclgnimimnaaDoor.V
open Go Go.RowKit
set_option linter.unusedVariables false
set_option linter.unusedSimpArgs false

/-! ### numbers that wrap -/
def wrp (n : Int) : Int := (n + 4611686018427387904) % 9223372036854775808 - 4611686018427387904
def isN (n : Int) : Bool := decide (-4611686018427387904 ≤ n) && decide (n ≤ 4611686018427387903)
theorem wrp_lo (n : Int) : -4611686018427387904 ≤ wrp n := by unfold wrp; omega
theorem wrp_hi (n : Int) : wrp n ≤ 4611686018427387903 := by unfold wrp; omega
theorem wrp_add (x k : Int) : wrp (x + 9223372036854775808 * k) = wrp x := by unfold wrp; omega
theorem wrp_ex (x : Int) : ∃ k, wrp x = x + 9223372036854775808 * k := ⟨-((x + 4611686018427387904) / 9223372036854775808), by unfold wrp; omega⟩
theorem wrp_self {x : Int} (h0 : -4611686018427387904 ≤ x) (h1 : x ≤ 4611686018427387903) : wrp x = x := by unfold wrp; omega
theorem wrp_wrp (x : Int) : wrp (wrp x) = wrp x := wrp_self (wrp_lo x) (wrp_hi x)
theorem wrp_i64 (x : Int) : wrp (IntKind.i64.wrap x) = wrp x := by rw [wrap_i64']; unfold wrp; omega
theorem isN_wrp (x : Int) : isN (wrp x) = true := by have := wrp_lo x; have := wrp_hi x; simp [isN]; omega
theorem isN_iff (x : Int) : isN x = decide (wrp x = x) := by
  unfold isN wrp
  rw [Bool.eq_iff_iff]
  simp only [Bool.and_eq_true, decide_eq_true_eq]
  omega
theorem num_wrap (n : Int) : shrV .i64 (shlV .i64 n 1) 1 = wrp n := by
  unfold shrV shlV wrp
  rw [show min (1 : Int).toNat IntKind.i64.bits = 1 from rfl, show ((2 : Int) ^ 1) = 2 from rfl, Int.fdiv_eq_ediv_of_nonneg _ (by decide), wrap_i64']
  omega
theorem ret_int {k : IntKind} {x y : Int} (h : x = y) : Ending.returned (.int k x) = .returned (.int k y) := by rw [h]

section
variable {w : World} {R : Ending → World → Prop} {n a b : Int}
theorem c12 (h : R (.returned (.bool (isN n))) w) : CallW Tryd.prog 12 #[.int .i64 n] w R := by
  refine ⟨vc_12 _ _ _ ?_⟩
  simp only [eq_self, true_and, and_true, decide_eq_true_eq, decide_eq_false_iff_not, gd_st, gd_sf, exists_eq_left', exists_eq_left, Option.some.injEq, Sl.eta, Nat.reduceLeDiff, Int.reduceLE, Int.reduceLT, Int.reduceEq, Int.reduceNe, Nat.reduceMul, Nat.reduceAdd, Nat.reduceSub, Int.toNat_natCast, beq_iff_eq, bne_iff_ne, beq_eq_false_iff_ne, bne_eq_false_iff_eq, pick_and, pick_or, Bool.and_eq_true, Bool.or_eq_true, Bool.and_eq_false_iff, Bool.or_eq_false_iff, ne_eq, not_false_eq_true, Bool.not_eq_true', Bool.not_eq_false', reduceCtorEq, Nat.le_refl, Nat.zero_mul, Nat.mul_one, Nat.zero_add, Int.reduceToNat, ones, one, add_mk, Decidable.not_not, cond_true, cond_false, true_implies, false_implies, implies_true, Bool.not_true, Bool.not_false]
  refine ⟨fun h0 => ?_, fun h0 => ?_⟩
  · rw [isN, decide_eq_true h0, Bool.true_and] at h; exact h
  · rw [isN, decide_eq_false h0, Bool.false_and] at h; exact h
theorem c13 (h : R (.returned (.bool (isN n))) w) : CallW Tryd.prog 13 #[.int .i64 n] w R := by
  refine ⟨vc_13 _ _ _ ?_⟩
  simp only [eq_self, true_and, and_true, decide_eq_true_eq, decide_eq_false_iff_not, gd_st, gd_sf, exists_eq_left', exists_eq_left, Option.some.injEq, Sl.eta, Nat.reduceLeDiff, Int.reduceLE, Int.reduceLT, Int.reduceEq, Int.reduceNe, Nat.reduceMul, Nat.reduceAdd, Nat.reduceSub, Int.toNat_natCast, beq_iff_eq, bne_iff_ne, beq_eq_false_iff_ne, bne_eq_false_iff_eq, pick_and, pick_or, Bool.and_eq_true, Bool.or_eq_true, Bool.and_eq_false_iff, Bool.or_eq_false_iff, ne_eq, not_false_eq_true, Bool.not_eq_true', Bool.not_eq_false', reduceCtorEq, Nat.le_refl, Nat.zero_mul, Nat.mul_one, Nat.zero_add, Int.reduceToNat, ones, one, add_mk, Decidable.not_not, cond_true, cond_false, true_implies, false_implies, implies_true, Bool.not_true, Bool.not_false]
  refine ⟨fun h0 => ?_, fun h0 => ?_⟩
  · rw [isN, decide_eq_true h0, Bool.true_and] at h; exact h
  · rw [isN, decide_eq_false h0, Bool.false_and] at h; exact h
theorem c14 (h : R (.returned (.int .i64 (wrp n))) w) : CallW Tryd.prog 14 #[.int .i64 n] w R := by
  refine ⟨vc_14 _ _ _ ?_⟩
  simp only [eq_self, true_and, and_true, decide_eq_true_eq, decide_eq_false_iff_not, gd_st, gd_sf, exists_eq_left', exists_eq_left, Option.some.injEq, Sl.eta, Nat.reduceLeDiff, Int.reduceLE, Int.reduceLT, Int.reduceEq, Int.reduceNe, Nat.reduceMul, Nat.reduceAdd, Nat.reduceSub, Int.toNat_natCast, beq_iff_eq, bne_iff_ne, beq_eq_false_iff_ne, bne_eq_false_iff_eq, pick_and, pick_or, Bool.and_eq_true, Bool.or_eq_true, Bool.and_eq_false_iff, Bool.or_eq_false_iff, ne_eq, not_false_eq_true, Bool.not_eq_true', Bool.not_eq_false', reduceCtorEq, Nat.le_refl, Nat.zero_mul, Nat.mul_one, Nat.zero_add, Int.reduceToNat, ones, one, add_mk, Decidable.not_not, cond_true, cond_false, true_implies, false_implies, implies_true, Bool.not_true, Bool.not_false]
  rw [num_wrap]; exact h
theorem c15 (h : R (.returned (.int .i64 (wrp n))) w) : CallW Tryd.prog 15 #[.int .i64 n] w R := by
  refine ⟨vc_15 _ _ _ ?_⟩
  simp only [eq_self, true_and, and_true, decide_eq_true_eq, decide_eq_false_iff_not, gd_st, gd_sf, exists_eq_left', exists_eq_left, Option.some.injEq, Sl.eta, Nat.reduceLeDiff, Int.reduceLE, Int.reduceLT, Int.reduceEq, Int.reduceNe, Nat.reduceMul, Nat.reduceAdd, Nat.reduceSub, Int.toNat_natCast, beq_iff_eq, bne_iff_ne, beq_eq_false_iff_ne, bne_eq_false_iff_eq, pick_and, pick_or, Bool.and_eq_true, Bool.or_eq_true, Bool.and_eq_false_iff, Bool.or_eq_false_iff, ne_eq, not_false_eq_true, Bool.not_eq_true', Bool.not_eq_false', reduceCtorEq, Nat.le_refl, Nat.zero_mul, Nat.mul_one, Nat.zero_add, Int.reduceToNat, ones, one, add_mk, Decidable.not_not, cond_true, cond_false, true_implies, false_implies, implies_true, Bool.not_true, Bool.not_false]
  rw [wrap_u64' n, Int.tmod_eq_emod_of_nonneg (by omega)]
  refine ⟨fun h0 => ?_, fun h0 => ?_⟩
  · have e : IntKind.i64.wrap (IntKind.u64.wrap (n % 18446744073709551616 % 9223372036854775808 + 9223372036854775808)) = wrp n := by
      rw [wrap_u64', wrap_i64']; unfold wrp; omega
    rw [e]; exact h
  · have e : IntKind.i64.wrap (n % 18446744073709551616 % 9223372036854775808) = wrp n := by
      rw [wrap_i64']; unfold wrp; omega
    rw [e]; exact h
theorem c24 (h : R (.returned (.int .i64 (wrp (a + b)))) w) : CallW Tryd.prog 24 #[.int .i64 a, .int .i64 b] w R := by
  refine ⟨vc_24 _ _ _ _ ?_⟩
  simp only [eq_self, true_and, and_true, decide_eq_true_eq, decide_eq_false_iff_not, gd_st, gd_sf, exists_eq_left', exists_eq_left, Option.some.injEq, Sl.eta, Nat.reduceLeDiff, Int.reduceLE, Int.reduceLT, Int.reduceEq, Int.reduceNe, Nat.reduceMul, Nat.reduceAdd, Nat.reduceSub, Int.toNat_natCast, beq_iff_eq, bne_iff_ne, beq_eq_false_iff_ne, bne_eq_false_iff_eq, pick_and, pick_or, Bool.and_eq_true, Bool.or_eq_true, Bool.and_eq_false_iff, Bool.or_eq_false_iff, ne_eq, not_false_eq_true, Bool.not_eq_true', Bool.not_eq_false', reduceCtorEq, Nat.le_refl, Nat.zero_mul, Nat.mul_one, Nat.zero_add, Int.reduceToNat, ones, one, add_mk, Decidable.not_not, cond_true, cond_false, true_implies, false_implies, implies_true, Bool.not_true, Bool.not_false]
  refine c14 ⟨_, rfl, ?_⟩
  rw [wrp_i64]; exact h
theorem c25 (h : R (.returned (.int .i64 (wrp (a + b)))) w) : CallW Tryd.prog 25 #[.int .i64 a, .int .i64 b] w R := by
  refine ⟨vc_25 _ _ _ _ ?_⟩
  simp only [eq_self, true_and, and_true, decide_eq_true_eq, decide_eq_false_iff_not, gd_st, gd_sf, exists_eq_left', exists_eq_left, Option.some.injEq, Sl.eta, Nat.reduceLeDiff, Int.reduceLE, Int.reduceLT, Int.reduceEq, Int.reduceNe, Nat.reduceMul, Nat.reduceAdd, Nat.reduceSub, Int.toNat_natCast, beq_iff_eq, bne_iff_ne, beq_eq_false_iff_ne, bne_eq_false_iff_eq, pick_and, pick_or, Bool.and_eq_true, Bool.or_eq_true, Bool.and_eq_false_iff, Bool.or_eq_false_iff, ne_eq, not_false_eq_true, Bool.not_eq_true', Bool.not_eq_false', reduceCtorEq, Nat.le_refl, Nat.zero_mul, Nat.mul_one, Nat.zero_add, Int.reduceToNat, ones, one, add_mk, Decidable.not_not, cond_true, cond_false, true_implies, false_implies, implies_true, Bool.not_true, Bool.not_false]
  refine c15 ⟨_, rfl, ?_⟩
  rw [wrp_i64]; exact h
theorem c26 (h : R (.returned (.int .i64 (wrp (a - b)))) w) : CallW Tryd.prog 26 #[.int .i64 a, .int .i64 b] w R := by
  refine ⟨vc_26 _ _ _ _ ?_⟩
  simp only [eq_self, true_and, and_true, decide_eq_true_eq, decide_eq_false_iff_not, gd_st, gd_sf, exists_eq_left', exists_eq_left, Option.some.injEq, Sl.eta, Nat.reduceLeDiff, Int.reduceLE, Int.reduceLT, Int.reduceEq, Int.reduceNe, Nat.reduceMul, Nat.reduceAdd, Nat.reduceSub, Int.toNat_natCast, beq_iff_eq, bne_iff_ne, beq_eq_false_iff_ne, bne_eq_false_iff_eq, pick_and, pick_or, Bool.and_eq_true, Bool.or_eq_true, Bool.and_eq_false_iff, Bool.or_eq_false_iff, ne_eq, not_false_eq_true, Bool.not_eq_true', Bool.not_eq_false', reduceCtorEq, Nat.le_refl, Nat.zero_mul, Nat.mul_one, Nat.zero_add, Int.reduceToNat, ones, one, add_mk, Decidable.not_not, cond_true, cond_false, true_implies, false_implies, implies_true, Bool.not_true, Bool.not_false]
  refine c14 ⟨_, rfl, ?_⟩
  rw [wrp_i64]; exact h
theorem c27 (h : R (.returned (.int .i64 (wrp (a - b)))) w) : CallW Tryd.prog 27 #[.int .i64 a, .int .i64 b] w R := by
  refine ⟨vc_27 _ _ _ _ ?_⟩
  simp only [eq_self, true_and, and_true, decide_eq_true_eq, decide_eq_false_iff_not, gd_st, gd_sf, exists_eq_left', exists_eq_left, Option.some.injEq, Sl.eta, Nat.reduceLeDiff, Int.reduceLE, Int.reduceLT, Int.reduceEq, Int.reduceNe, Nat.reduceMul, Nat.reduceAdd, Nat.reduceSub, Int.toNat_natCast, beq_iff_eq, bne_iff_ne, beq_eq_false_iff_ne, bne_eq_false_iff_eq, pick_and, pick_or, Bool.and_eq_true, Bool.or_eq_true, Bool.and_eq_false_iff, Bool.or_eq_false_iff, ne_eq, not_false_eq_true, Bool.not_eq_true', Bool.not_eq_false', reduceCtorEq, Nat.le_refl, Nat.zero_mul, Nat.mul_one, Nat.zero_add, Int.reduceToNat, ones, one, add_mk, Decidable.not_not, cond_true, cond_false, true_implies, false_implies, implies_true, Bool.not_true, Bool.not_false]
  refine c15 ⟨_, rfl, ?_⟩
  rw [wrp_i64]; exact h
theorem c28 (h : R (.returned (.int .i64 (wrp (a * b)))) w) : CallW Tryd.prog 28 #[.int .i64 a, .int .i64 b] w R := by
  refine ⟨vc_28 _ _ _ _ ?_⟩
  simp only [eq_self, true_and, and_true, decide_eq_true_eq, decide_eq_false_iff_not, gd_st, gd_sf, exists_eq_left', exists_eq_left, Option.some.injEq, Sl.eta, Nat.reduceLeDiff, Int.reduceLE, Int.reduceLT, Int.reduceEq, Int.reduceNe, Nat.reduceMul, Nat.reduceAdd, Nat.reduceSub, Int.toNat_natCast, beq_iff_eq, bne_iff_ne, beq_eq_false_iff_ne, bne_eq_false_iff_eq, pick_and, pick_or, Bool.and_eq_true, Bool.or_eq_true, Bool.and_eq_false_iff, Bool.or_eq_false_iff, ne_eq, not_false_eq_true, Bool.not_eq_true', Bool.not_eq_false', reduceCtorEq, Nat.le_refl, Nat.zero_mul, Nat.mul_one, Nat.zero_add, Int.reduceToNat, ones, one, add_mk, Decidable.not_not, cond_true, cond_false, true_implies, false_implies, implies_true, Bool.not_true, Bool.not_false]
  refine c14 ⟨_, rfl, ?_⟩
  rw [wrp_i64]; exact h
def divN (a b : Int) : Int × Bool := if wrp b = 0 then (0, false) else (wrp ((wrp a).tdiv (wrp b)), true)
def remN (a b : Int) : Int × Bool := if wrp b = 0 then (0, false) else ((wrp a).tmod (wrp b), true)
theorem c16 (h : R (.returned (.tuple #[.int .i64 (divN a b).1, .bool (divN a b).2])) w) : CallW Tryd.prog 16 #[.int .i64 a, .int .i64 b] w R := by
  refine ⟨vc_16 _ _ _ _ ?_⟩
  simp only [eq_self, true_and, and_true, decide_eq_true_eq, decide_eq_false_iff_not, gd_st, gd_sf, exists_eq_left', exists_eq_left, Option.some.injEq, Sl.eta, Nat.reduceLeDiff, Int.reduceLE, Int.reduceLT, Int.reduceEq, Int.reduceNe, Nat.reduceMul, Nat.reduceAdd, Nat.reduceSub, Int.toNat_natCast, beq_iff_eq, bne_iff_ne, beq_eq_false_iff_ne, bne_eq_false_iff_eq, pick_and, pick_or, Bool.and_eq_true, Bool.or_eq_true, Bool.and_eq_false_iff, Bool.or_eq_false_iff, ne_eq, not_false_eq_true, Bool.not_eq_true', Bool.not_eq_false', reduceCtorEq, Nat.le_refl, Nat.zero_mul, Nat.mul_one, Nat.zero_add, Int.reduceToNat, ones, one, add_mk, Decidable.not_not, cond_true, cond_false, true_implies, false_implies, implies_true, Bool.not_true, Bool.not_false]
  refine c14 ⟨_, rfl, fun h0 => ?_, fun h0 => c14 ⟨_, rfl, h0, c14 ⟨_, rfl, ?_⟩⟩⟩
  · rw [divN, if_pos h0] at h; exact h
  · rw [divN, if_neg h0] at h
    rw [wrp_i64]; exact h
theorem c17 (h : R (.returned (.tuple #[.int .i64 (remN a b).1, .bool (remN a b).2])) w) : CallW Tryd.prog 17 #[.int .i64 a, .int .i64 b] w R := by
  refine ⟨vc_17 _ _ _ _ ?_⟩
  simp only [eq_self, true_and, and_true, decide_eq_true_eq, decide_eq_false_iff_not, gd_st, gd_sf, exists_eq_left', exists_eq_left, Option.some.injEq, Sl.eta, Nat.reduceLeDiff, Int.reduceLE, Int.reduceLT, Int.reduceEq, Int.reduceNe, Nat.reduceMul, Nat.reduceAdd, Nat.reduceSub, Int.toNat_natCast, beq_iff_eq, bne_iff_ne, beq_eq_false_iff_ne, bne_eq_false_iff_eq, pick_and, pick_or, Bool.and_eq_true, Bool.or_eq_true, Bool.and_eq_false_iff, Bool.or_eq_false_iff, ne_eq, not_false_eq_true, Bool.not_eq_true', Bool.not_eq_false', reduceCtorEq, Nat.le_refl, Nat.zero_mul, Nat.mul_one, Nat.zero_add, Int.reduceToNat, ones, one, add_mk, Decidable.not_not, cond_true, cond_false, true_implies, false_implies, implies_true, Bool.not_true, Bool.not_false]
  refine c14 ⟨_, rfl, fun h0 => ?_, fun h0 => c14 ⟨_, rfl, h0, ?_⟩⟩
  · rw [remN, if_pos h0] at h; exact h
  · rw [remN, if_neg h0] at h; exact h
theorem c31 (h0 : -4611686018427387904 ≤ n) (h1 : n ≤ 4611686018427387903) (h : R (.returned (.int .u64 n.natAbs)) w) : CallW Tryd.prog 31 #[.int .i64 n] w R := by
  refine ⟨vc_31 _ _ _ ?_⟩
  simp only [eq_self, true_and, and_true, decide_eq_true_eq, decide_eq_false_iff_not, gd_st, gd_sf, exists_eq_left', exists_eq_left, Option.some.injEq, Sl.eta, Nat.reduceLeDiff, Int.reduceLE, Int.reduceLT, Int.reduceEq, Int.reduceNe, Nat.reduceMul, Nat.reduceAdd, Nat.reduceSub, Int.toNat_natCast, beq_iff_eq, bne_iff_ne, beq_eq_false_iff_ne, bne_eq_false_iff_eq, pick_and, pick_or, Bool.and_eq_true, Bool.or_eq_true, Bool.and_eq_false_iff, Bool.or_eq_false_iff, ne_eq, not_false_eq_true, Bool.not_eq_true', Bool.not_eq_false', reduceCtorEq, Nat.le_refl, Nat.zero_mul, Nat.mul_one, Nat.zero_add, Int.reduceToNat, ones, one, add_mk, Decidable.not_not, cond_true, cond_false, true_implies, false_implies, implies_true, Bool.not_true, Bool.not_false]
  refine ⟨fun hn => ?_, fun hn => ?_⟩
  · rw [wrap_i64 (by omega) (by omega), wrap_u64 (by omega) (by omega), show 0 - n = (n.natAbs : Int) by omega]; exact h
  · rw [wrap_u64 (by omega) (by omega), show n = (n.natAbs : Int) by omega]; exact h
theorem halves (x m : Nat) : x / 2 ^ m = 2 * (x / 2 ^ (m + 1)) + x / 2 ^ m % 2 := by
  rw [Nat.pow_succ, ← Nat.div_div_eq_div_mul]; omega
theorem c30 {x y : Nat} (hx : x < 9223372036854775808) (hy0 : 0 < y) (hy : y < 9223372036854775808) (h : R (.returned (.tuple #[.int .u64 (x / y : Nat), .int .u64 (x % y : Nat)])) w) :
    CallW Tryd.prog 30 #[.int .u64 x, .int .u64 y] w R := by
  refine ⟨vc_30 _ _ _ _ ?_⟩
  simp only [eq_self, true_and, and_true, decide_eq_true_eq, decide_eq_false_iff_not, gd_st, gd_sf, exists_eq_left', exists_eq_left, Option.some.injEq, Sl.eta, Nat.reduceLeDiff, Int.reduceLE, Int.reduceLT, Int.reduceEq, Int.reduceNe, Nat.reduceMul, Nat.reduceAdd, Nat.reduceSub, Int.toNat_natCast, beq_iff_eq, bne_iff_ne, beq_eq_false_iff_ne, bne_eq_false_iff_eq, pick_and, pick_or, Bool.and_eq_true, Bool.or_eq_true, Bool.and_eq_false_iff, Bool.or_eq_false_iff, ne_eq, not_false_eq_true, Bool.not_eq_true', Bool.not_eq_false', reduceCtorEq, Nat.le_refl, Nat.zero_mul, Nat.mul_one, Nat.zero_add, Int.reduceToNat, ones, one, add_mk, Decidable.not_not, cond_true, cond_false, true_implies, false_implies, implies_true, Bool.not_true, Bool.not_false]
  refine ⟨fun q r i w' => ∃ Q r' k : Nat, q = Q ∧ r = r' ∧ i = (63 : Int) - k ∧ k ≤ 64 ∧ x / 2 ^ (64 - k) = Q * y + r' ∧ r' < y ∧ w' = w, fun _ _ i _ => (i + 1).toNat, ⟨0, 0, 0, rfl, rfl, rfl, by omega, ?_, hy0, rfl⟩, ?_⟩
  · rw [Nat.div_eq_of_lt (by omega)]; simp
  rintro _ q r i w' ⟨Q, r', k, rfl, rfl, rfl, hk, hq, hr, rfl⟩
  refine ⟨fun hi => ?_, fun hi => ?_⟩
  · have hle : x / 2 ^ (64 - k) ≤ x := Nat.div_le_self ..
    have hQ : Q ≤ Q * y := Nat.le_mul_of_pos_right _ hy0
    have hh := halves x (63 - k)
    rw [show 63 - k + 1 = 64 - k by omega, hq] at hh
    have hle2 : x / 2 ^ (63 - k) ≤ x := Nat.div_le_self ..
    rw [show (63 : Int) - k = ((63 - k : Nat) : Int) by omega, shr_nat .u64 x (63 - k) (by show 63 - k ≤ 64; omega), Int.tmod_eq_emod_of_nonneg (by omega)]
    generalize hX : x / 2 ^ (63 - k) = X at *
    rw [wrap_u64 (n := 2 * (r' : Int)) (by omega) (by omega), wrap_u64 (n := 2 * (r' : Int) + (X : Int) % 2) (by omega) (by omega), wrap_u64 (n := 2 * (Q : Int)) (by omega) (by omega), wrap_i64 (by omega) (by omega)]
    refine ⟨by omega, fun hge => ?_, fun hlt => ?_⟩
    · rw [wrap_u64 (n := 2 * (Q : Int) + 1) (by omega) (by omega), wrap_u64 (by omega) (by omega)]
      refine ⟨⟨2 * Q + 1, 2 * r' + X % 2 - y, k + 1, by push_cast; rfl, by omega, by omega, by omega, ?_, by omega, rfl⟩, by dsimp only; omega⟩
      rw [show 64 - (k + 1) = 63 - k by omega]
      have e : (2 * Q + 1) * y = 2 * (Q * y) + y := by rw [Nat.add_mul, Nat.mul_assoc, Nat.one_mul]
      rw [e, hX]
      omega
    · refine ⟨⟨2 * Q, 2 * r' + X % 2, k + 1, by push_cast; rfl, by push_cast; omega, by omega, by omega, ?_, by omega, rfl⟩, by dsimp only; omega⟩
      rw [show 64 - (k + 1) = 63 - k by omega]
      have e : (2 * Q) * y = 2 * (Q * y) := by rw [Nat.mul_assoc]
      rw [e, hX]
      omega
  · obtain rfl : k = 64 := by omega
    rw [Nat.sub_self, Nat.pow_zero, Nat.div_one] at hq
    obtain ⟨e1, e2⟩ := (Nat.div_mod_unique hy0).2 ⟨show r' + y * Q = x by rw [hq, Nat.mul_comm]; omega, hr⟩
    rw [e1, e2] at h
    exact h
theorem tdiv_abs (x y : Int) : x.tdiv y = if (x < 0 ↔ y < 0) then ((x.natAbs / y.natAbs : Nat) : Int) else -((x.natAbs / y.natAbs : Nat) : Int) := by
  obtain ⟨n, rfl | rfl⟩ := Int.eq_nat_or_neg x <;> obtain ⟨m, rfl | rfl⟩ := Int.eq_nat_or_neg y
  · rw [if_pos (by omega)]; rfl
  · rw [Int.tdiv_neg, Int.natAbs_natCast, Int.natAbs_neg, Int.natAbs_natCast]
    rcases Nat.eq_zero_or_pos m with h | h
    · subst h; simp
    · rw [if_neg (by omega)]; rfl
  · rw [Int.neg_tdiv, Int.natAbs_neg, Int.natAbs_natCast, Int.natAbs_natCast]
    rcases Nat.eq_zero_or_pos n with h | h
    · subst h; simp
    · rw [if_neg (by omega)]; rfl
  · rw [Int.tdiv_neg, Int.neg_tdiv, Int.neg_neg, Int.natAbs_neg, Int.natAbs_natCast, Int.natAbs_neg, Int.natAbs_natCast]
    rcases Nat.eq_zero_or_pos n with h | h
    · subst h; simp
    · rcases Nat.eq_zero_or_pos m with h' | h'
      · subst h'; simp
      · rw [if_pos (by omega)]; rfl
theorem tmod_abs (x y : Int) : x.tmod y = if x < 0 then -((x.natAbs % y.natAbs : Nat) : Int) else ((x.natAbs % y.natAbs : Nat) : Int) := by
  obtain ⟨n, rfl | rfl⟩ := Int.eq_nat_or_neg x <;> obtain ⟨m, rfl | rfl⟩ := Int.eq_nat_or_neg y
  · rw [if_neg (by omega)]; rfl
  · rw [Int.tmod_neg, Int.natAbs_natCast, Int.natAbs_neg, Int.natAbs_natCast, if_neg (by omega)]; rfl
  · rw [Int.neg_tmod, Int.natAbs_neg, Int.natAbs_natCast, Int.natAbs_natCast]
    rcases Nat.eq_zero_or_pos n with h | h
    · subst h; simp
    · rw [if_pos (by omega)]; rfl
  · rw [Int.tmod_neg, Int.neg_tmod, Int.natAbs_neg, Int.natAbs_natCast, Int.natAbs_neg, Int.natAbs_natCast]
    rcases Nat.eq_zero_or_pos n with h | h
    · subst h; simp
    · rw [if_pos (by omega)]; rfl
theorem c18 (h : R (.returned (.tuple #[.int .i64 (divN a b).1, .bool (divN a b).2])) w) : CallW Tryd.prog 18 #[.int .i64 a, .int .i64 b] w R := by
  refine ⟨vc_18 _ _ _ _ ?_⟩
  simp only [eq_self, true_and, and_true, decide_eq_true_eq, decide_eq_false_iff_not, gd_st, gd_sf, exists_eq_left', exists_eq_left, Option.some.injEq, Sl.eta, Nat.reduceLeDiff, Int.reduceLE, Int.reduceLT, Int.reduceEq, Int.reduceNe, Nat.reduceMul, Nat.reduceAdd, Nat.reduceSub, Int.toNat_natCast, beq_iff_eq, bne_iff_ne, beq_eq_false_iff_ne, bne_eq_false_iff_eq, pick_and, pick_or, Bool.and_eq_true, Bool.or_eq_true, Bool.and_eq_false_iff, Bool.or_eq_false_iff, ne_eq, not_false_eq_true, Bool.not_eq_true', Bool.not_eq_false', reduceCtorEq, Nat.le_refl, Nat.zero_mul, Nat.mul_one, Nat.zero_add, Int.reduceToNat, ones, one, add_mk, Decidable.not_not, cond_true, cond_false, true_implies, false_implies, implies_true, Bool.not_true, Bool.not_false]
  have a0 := wrp_lo a
  have a1 := wrp_hi a
  have b0 := wrp_lo b
  have b1 := wrp_hi b
  refine c15 ⟨_, rfl, c15 ⟨_, rfl, fun h0 => ?_, fun h0 => ?_⟩⟩
  · rw [divN, if_pos h0] at h; exact h
  · rw [divN, if_neg h0, tdiv_abs] at h
    refine c31 a0 a1 ⟨_, rfl, c31 b0 b1 ⟨_, rfl, c30 (by omega) (by omega) (by omega) ⟨_, _, rfl, fun hs => ?_, fun hs => ?_⟩⟩⟩
    all_goals
      have hq : (wrp a).natAbs / (wrp b).natAbs ≤ (wrp a).natAbs := Nat.div_le_self ..
      generalize (wrp a).natAbs / (wrp b).natAbs = q at *
      rw [wrap_i64 (n := (q : Int)) (by omega) (by omega)]
      refine c15 ⟨_, rfl, ?_⟩
    · rw [if_neg (by intro hi; exact hs (by simp only [decide_eq_decide]; exact hi))] at h
      rw [wrp_i64, Int.zero_sub]; exact h
    · rw [if_pos (by simpa only [decide_eq_decide] using hs)] at h
      exact h
theorem c19 (h : R (.returned (.tuple #[.int .i64 (remN a b).1, .bool (remN a b).2])) w) : CallW Tryd.prog 19 #[.int .i64 a, .int .i64 b] w R := by
  refine ⟨vc_19 _ _ _ _ ?_⟩
  simp only [eq_self, true_and, and_true, decide_eq_true_eq, decide_eq_false_iff_not, gd_st, gd_sf, exists_eq_left', exists_eq_left, Option.some.injEq, Sl.eta, Nat.reduceLeDiff, Int.reduceLE, Int.reduceLT, Int.reduceEq, Int.reduceNe, Nat.reduceMul, Nat.reduceAdd, Nat.reduceSub, Int.toNat_natCast, beq_iff_eq, bne_iff_ne, beq_eq_false_iff_ne, bne_eq_false_iff_eq, pick_and, pick_or, Bool.and_eq_true, Bool.or_eq_true, Bool.and_eq_false_iff, Bool.or_eq_false_iff, ne_eq, not_false_eq_true, Bool.not_eq_true', Bool.not_eq_false', reduceCtorEq, Nat.le_refl, Nat.zero_mul, Nat.mul_one, Nat.zero_add, Int.reduceToNat, ones, one, add_mk, Decidable.not_not, cond_true, cond_false, true_implies, false_implies, implies_true, Bool.not_true, Bool.not_false]
  have a0 := wrp_lo a
  have a1 := wrp_hi a
  have b0 := wrp_lo b
  have b1 := wrp_hi b
  refine c15 ⟨_, rfl, c15 ⟨_, rfl, fun h0 => ?_, fun h0 => ?_⟩⟩
  · rw [remN, if_pos h0] at h; exact h
  · rw [remN, if_neg h0, tmod_abs] at h
    refine c31 a0 a1 ⟨_, rfl, c31 b0 b1 ⟨_, rfl, c30 (by omega) (by omega) (by omega) ⟨_, _, rfl, fun hs => ?_, fun hs => ?_⟩⟩⟩
    all_goals
      have hq : (wrp a).natAbs % (wrp b).natAbs ≤ (wrp a).natAbs := Nat.mod_le ..
      generalize (wrp a).natAbs % (wrp b).natAbs = q at *
      rw [wrap_i64 (n := (q : Int)) (by omega) (by omega)]
    · rw [if_pos hs] at h
      rw [wrap_i64 (by omega) (by omega), Int.zero_sub]; exact h
    · rw [if_neg hs] at h
      exact h
theorem c29 (h : R (.returned (.int .i64 (wrp (a * b)))) w) : CallW Tryd.prog 29 #[.int .i64 a, .int .i64 b] w R := by
  refine ⟨vc_29 _ _ _ _ ?_⟩
  simp only [eq_self, true_and, and_true, decide_eq_true_eq, decide_eq_false_iff_not, gd_st, gd_sf, exists_eq_left', exists_eq_left, Option.some.injEq, Sl.eta, Nat.reduceLeDiff, Int.reduceLE, Int.reduceLT, Int.reduceEq, Int.reduceNe, Nat.reduceMul, Nat.reduceAdd, Nat.reduceSub, Int.toNat_natCast, beq_iff_eq, bne_iff_ne, beq_eq_false_iff_ne, bne_eq_false_iff_eq, pick_and, pick_or, Bool.and_eq_true, Bool.or_eq_true, Bool.and_eq_false_iff, Bool.or_eq_false_iff, ne_eq, not_false_eq_true, Bool.not_eq_true', Bool.not_eq_false', reduceCtorEq, Nat.le_refl, Nat.zero_mul, Nat.mul_one, Nat.zero_add, Int.reduceToNat, ones, one, add_mk, Decidable.not_not, cond_true, cond_false, true_implies, false_implies, implies_true, Bool.not_true, Bool.not_false]
  obtain ⟨U, hU⟩ : ∃ U : Nat, IntKind.u64.wrap b = U := ⟨(IntKind.u64.wrap b).toNat, by rw [Int.toNat_of_nonneg (by rw [wrap_u64']; omega)]⟩
  have hUlt : U < 18446744073709551616 := by rw [wrap_u64'] at hU; omega
  obtain ⟨t, ht⟩ : ∃ t : Int, (U : Int) = b + 9223372036854775808 * t := ⟨-2 * (b / 18446744073709551616), by rw [← hU, wrap_u64']; omega⟩
  rw [hU]
  refine ⟨fun x s u i w' => ∃ (k : Nat) (m : Int), i = k ∧ k ≤ 64 ∧ u = (U / 2 ^ k : Nat) ∧ x = a * (2 ^ k : Nat) + 9223372036854775808 * m ∧ s = wrp (a * (U % 2 ^ k : Nat)) ∧ w' = w, fun _ _ _ i _ => (64 - i).toNat,
    ⟨0, 0, rfl, by omega, by simp, by simp, by rw [Nat.pow_zero, Nat.mod_one]; simp [wrp], rfl⟩, ?_⟩
  rintro _ x s u i w' ⟨k, m, rfl, hk, rfl, rfl, rfl, rfl⟩
  have hb : U % 2 ^ (k + 1) = U % 2 ^ k + 2 ^ k * (U / 2 ^ k % 2) := Nat.mod_pow_succ
  have hQU : U / 2 ^ k ≤ U := Nat.div_le_self ..
  have hQ1 : U / 2 ^ (k + 1) = U / 2 ^ k / 2 := by rw [Nat.pow_succ, ← Nat.div_div_eq_div_mul]
  generalize U / 2 ^ k = Q at *
  have hh : IntKind.u64.wrap ((Q : Int).tdiv 2) = ((U / 2 ^ (k + 1) : Nat) : Int) := by
    rw [hQ1, Int.tdiv_eq_ediv_of_nonneg (by omega), wrap_u64 (by omega) (by omega)]
    omega
  obtain ⟨m1, hm1⟩ := wrp_ex (a * (2 ^ k : Nat) + 9223372036854775808 * m + (a * (2 ^ k : Nat) + 9223372036854775808 * m))
  obtain ⟨m2, hm2⟩ := wrp_ex (a * (U % 2 ^ k : Nat))
  have nxt : wrp (IntKind.i64.wrap (a * (2 ^ k : Nat) + 9223372036854775808 * m + (a * (2 ^ k : Nat) + 9223372036854775808 * m))) = a * (2 ^ (k + 1) : Nat) + 9223372036854775808 * (2 * m + m1) := by
    rw [wrp_i64, hm1, Nat.pow_succ]
    push_cast
    rw [← Int.mul_assoc]
    generalize a * 2 ^ k = z
    omega
  refine ⟨fun hi => ⟨fun h1 => ?_, fun h1 => ?_⟩, fun hi => ?_⟩
  · have hbit : Q % 2 = 1 := by rw [Int.tmod_eq_emod_of_nonneg (by omega)] at h1; omega
    refine c15 ⟨_, rfl, c15 ⟨_, rfl, ⟨k + 1, 2 * m + m1, by rw [wrap_i64 (n := (k : Int) + 1) (by omega) (by omega)]; push_cast; rfl, by omega, hh, nxt, ?_, rfl⟩, by dsimp only; rw [wrap_i64 (n := (k : Int) + 1) (by omega) (by omega)]; omega⟩⟩
    rw [wrp_i64, hb, hbit, Nat.mul_one, hm2]
    have e : a * (U % 2 ^ k : Nat) + 9223372036854775808 * m2 + (a * (2 ^ k : Nat) + 9223372036854775808 * m) = a * ((U % 2 ^ k + 2 ^ k : Nat) : Int) + 9223372036854775808 * (m2 + m) := by
      rw [Int.natCast_add, Int.mul_add]
      generalize a * ((U % 2 ^ k : Nat) : Int) = y
      generalize a * ((2 ^ k : Nat) : Int) = z
      omega
    rw [e, wrp_add]
  · have hbit : Q % 2 = 0 := by rw [Int.tmod_eq_emod_of_nonneg (by omega)] at h1; omega
    refine c15 ⟨_, rfl, ⟨k + 1, 2 * m + m1, by rw [wrap_i64 (n := (k : Int) + 1) (by omega) (by omega)]; push_cast; rfl, by omega, hh, nxt, ?_, rfl⟩, by dsimp only; rw [wrap_i64 (n := (k : Int) + 1) (by omega) (by omega)]; omega⟩
    rw [hb, hbit, Nat.mul_zero, Nat.add_zero]
  · obtain rfl : k = 64 := by omega
    rw [Nat.mod_eq_of_lt (by omega), ht, Int.mul_add, ← Int.mul_assoc, Int.mul_comm a 9223372036854775808, Int.mul_assoc, wrp_add]
    exact h
end
end Go.Proofs.YtjdiclgnimimnaaDoor.V
