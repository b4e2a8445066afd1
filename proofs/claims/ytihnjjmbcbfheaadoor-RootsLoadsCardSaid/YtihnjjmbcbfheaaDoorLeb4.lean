/-
  Package leb: numbers read.
-/
import Derived.Test.YtihnjjmbcbfheaaDoorLeb3
import Derived.Test.YtihnjjmbcbfheaaDoorVcA
namespace Go.Proofs.YtihnjjmbcbfheaaDoor.V
open Go Go.RowKit
set_option linter.unusedVariables false
set_option linter.unusedSimpArgs false

/-- what a number's bytes are read as: none: they end within it; some none: not in its form; else the number and how many bytes it has -/
def parse : List Nat → Nat → Nat → Option (Option (Nat × Nat))
  | [], _, _ => none
  | c :: l, i, acc =>
    if i = 9 ∧ 1 < c then some none
    else if c < 128 then (if c = 0 ∧ 0 < i then some none else some (some (acc + c * 128 ^ i, i + 1)))
    else parse l (i + 1) (acc + (c % 128) * 128 ^ i)
def RS.uint (bs : List Nat) (s : RS) (most : Nat) (e : Int) : Nat × RS :=
  if s.er ≠ 0 then (0, s) else
  match parse (bs.drop s.k) 0 0 with
  | none => (0, s.fail bs.length 2)
  | some none => (0, s.fail s.k 4)
  | some (some (n, z)) => if most < n ∧ e ≠ 0 then (0, s.fail s.k e) else (n, ⟨s.k + z, s.pl, s.er⟩)
theorem pow128 (i : Nat) : 128 ^ i = 2 ^ (7 * i) := by rw [Nat.pow_mul]
theorem step_or (acc c i : Nat) (hacc : acc < 128 ^ i) (hi : i ≤ 9) (hc : c < 256) (h9 : i = 9 → c ≤ 1) :
    bitV .or .u64 (acc : Int) (shlV .u64 (IntKind.u64.wrap (bitV .and .u8 (c : Int) 127)) (IntKind.i64.wrap (7 * (i : Int)))) = ((acc + c % 128 * 128 ^ i : Nat) : Int) := by
  have e1 : bitV .and .u8 (c : Int) 127 = ((c % 128 : Nat) : Int) := by
    rw [show (127 : Int) = ((127 : Nat) : Int) from rfl, and_u8 _ _ hc (by omega), show (127 : Nat) = 2 ^ 7 - 1 from rfl, Nat.and_two_pow_sub_one_eq_mod]
  have e2 : IntKind.u64.wrap ((c % 128 : Nat) : Int) = ((c % 128 : Nat) : Int) := wrap_u64 (by omega) (by omega)
  have e3 : IntKind.i64.wrap (7 * (i : Int)) = ((7 * i : Nat) : Int) := by rw [wrap_i64 (by omega) (by omega)]; push_cast; rfl
  rw [e1, e2, e3, shl_u64 _ _ (by omega)]
  have hp : 0 < 2 ^ (7 * i) := Nat.pow_pos (by decide)
  have hlt : c % 128 * 2 ^ (7 * i) < 18446744073709551616 := by
    rcases Nat.lt_or_ge i 9 with h | h
    · have h1 : 2 ^ (7 * i) ≤ 2 ^ 56 := Nat.pow_le_pow_right (by decide) (by omega)
      have h2 : c % 128 * 2 ^ (7 * i) ≤ 127 * 2 ^ 56 := Nat.mul_le_mul (by omega) h1
      omega
    · obtain rfl : i = 9 := by omega
      have := h9 rfl
      have h2 : c % 128 * 2 ^ (7 * 9) ≤ 1 * 2 ^ (7 * 9) := Nat.mul_le_mul_right _ (by omega)
      omega
  have hacc' : acc < 18446744073709551616 := by
    have : 128 ^ i ≤ 128 ^ 9 := Nat.pow_le_pow_right (by decide) hi
    omega
  rw [Nat.mod_eq_of_lt hlt, or_u64 _ _ hacc' hlt]
  congr 1
  rw [pow128] at hacc ⊢
  rw [Nat.or_comm, Nat.mul_comm (c % 128), ← Nat.two_pow_add_eq_or_of_lt hacc, Nat.add_comm]
theorem step_lt (acc c i : Nat) (hacc : acc < 128 ^ i) : acc + c % 128 * 128 ^ i < 128 ^ (i + 1) := by
  rw [Nat.pow_succ]
  have h1 : c % 128 * 128 ^ i ≤ 127 * 128 ^ i := Nat.mul_le_mul_right _ (by omega)
  omega
theorem drop_cons {bs : List Nat} {k x : Nat} (h : bs[k]? = some x) : bs.drop k = x :: bs.drop (k + 1) := by
  obtain ⟨hk, rfl⟩ := List.getElem?_eq_some_iff.1 h
  exact List.drop_eq_getElem_cons hk

section
variable {w : World} {B g : Nat} {bs : List Nat} {s : RS} {sl : Sl}
theorem uint_spec (most : Nat) (e : Int) (h : Rdr w B g bs s sl) :
    Calls Tryd.prog 13 #[.pointer (some ⟨g, 0, none⟩), .int .u64 most, .int .i64 e] w fun en w' =>
      en = .returned (.int .u64 (s.uint bs most e).1) ∧ Rdr w' B g bs (s.uint bs most e).2 sl ∧ Upd (· = g) w w' := by
  refine vc_13 _ _ _ _ _ ?_
  have hb := h.blk
  have hl := h.len
  have hf := h.fit
  have hp := h.pos
  simp only [eq_self, false_or, or_false, true_and, and_true, decide_eq_true_eq, decide_eq_false_iff_not, gd_st, gd_sf, exists_eq_left', exists_eq_left, Option.some.injEq, Sl.eta, Nat.reduceLeDiff, Int.reduceLE, Int.reduceLT, Int.reduceEq, Int.reduceNe, Nat.reduceMul, Nat.reduceAdd, Nat.reduceSub, Int.toNat_natCast, beq_iff_eq, bne_iff_ne, beq_eq_false_iff_ne, bne_eq_false_iff_eq, pick_and, pick_or, Bool.and_eq_true, Bool.or_eq_true, Bool.and_eq_false_iff, Bool.or_eq_false_iff, ne_eq, not_false_eq_true, Bool.not_eq_true', Bool.not_eq_false', reduceCtorEq, Nat.le_refl, Nat.zero_mul, Nat.mul_one, Nat.zero_add, Int.reduceToNat, ones, one, add_mk, Decidable.not_not, cond_true, cond_false, true_implies, false_implies, implies_true, Bool.not_true, Bool.not_false]
  simp only [hb.cell, List.getElem?_cons_zero, List.getElem?_cons_succ, ex_sl, Value.int.injEq, Value.bool.injEq, Value.pointer.injEq, Value.string.injEq, eq_self, false_or, or_false, true_and, and_true, decide_eq_true_eq, decide_eq_false_iff_not, gd_st, gd_sf, exists_eq_left', exists_eq_left, Option.some.injEq, Sl.eta, Nat.reduceLeDiff, Int.reduceLE, Int.reduceLT, Int.reduceEq, Int.reduceNe, Nat.reduceMul, Nat.reduceAdd, Nat.reduceSub, Int.toNat_natCast, beq_iff_eq, bne_iff_ne, beq_eq_false_iff_ne, bne_eq_false_iff_eq, pick_and, pick_or, Bool.and_eq_true, Bool.or_eq_true, Bool.and_eq_false_iff, Bool.or_eq_false_iff, ne_eq, not_false_eq_true, Bool.not_eq_true', Bool.not_eq_false', reduceCtorEq, Nat.le_refl, Nat.zero_mul, Nat.mul_one, Nat.zero_add, Int.reduceToNat, ones, one, add_mk, Decidable.not_not, cond_true, cond_false, true_implies, false_implies, implies_true, Bool.not_true, Bool.not_false]
  refine ⟨fun h0 => ?_, fun h0 => ?_⟩
  · have e1 : s.uint bs most e = (0, s) := by rw [RS.uint, if_pos h0]
    rw [e1]
    exact ⟨rfl, h, .refl _ _⟩
  have e0 : s.uint bs most e = match parse (bs.drop s.k) 0 0 with
    | none => (0, s.fail bs.length 2)
    | some none => (0, s.fail s.k 4)
    | some (some (n, z)) => if most < n ∧ e ≠ 0 then (0, s.fail s.k e) else (n, ⟨s.k + z, s.pl, s.er⟩) := by
    rw [RS.uint, if_neg (by simp [h0])]
  have fin : ∀ (at_ e' : Int) (w1 : World), Ext w w1 → s.uint bs most e = (0, s.fail at_ e') →
      Calls Tryd.prog 16 #[.pointer (some ⟨g, 0, none⟩), .int .i64 at_, .int .i64 e'] w1 fun en w' =>
        ∃ v, en = .returned v ∧ Ending.returned (.int .u64 0) = .returned (.int .u64 (s.uint bs most e).1) ∧ Rdr w' B g bs (s.uint bs most e).2 sl ∧ Upd (· = g) w w' := by
    intro at_ e' w1 hx1 he
    refine (fail_spec at_ e' (h.ext hx1)).mono ?_
    rintro en w2 ⟨rfl, h2, u2⟩
    rw [he]
    exact ⟨_, rfl, rfl, h2, hx1.upd u2⟩
  refine ⟨fun n z w' => ∃ acc i : Nat, n = (acc : Int) ∧ z = (i : Int) ∧ parse (bs.drop s.k) 0 0 = some (some (acc, i)) ∧ s.k + i ≤ bs.length ∧ Ext w w', ?_, ?_⟩
  · refine ⟨fun n z w' => ∃ acc i : Nat, n = (acc : Int) ∧ z = (i : Int) ∧ acc < 128 ^ i ∧ i ≤ 9 ∧ parse (bs.drop s.k) 0 0 = parse (bs.drop (s.k + i)) i acc ∧ s.k + i ≤ bs.length ∧ Ext w w',
      fun _ z _ => (10 - z).toNat, ⟨0, 0, rfl, rfl, by decide, by omega, rfl, by omega, .refl _⟩, ?_⟩
    rintro _ n z w1 ⟨acc, i, rfl, rfl, hacc, hi, hpar, hki, hx1⟩
    have h1 := h.ext hx1
    have hb1 := h1.blk
    simp only [hb1.cell, List.getElem?_cons_zero, List.getElem?_cons_succ, ex_sl, Value.int.injEq, Value.bool.injEq, Value.pointer.injEq, Value.string.injEq, eq_self, false_or, or_false, true_and, and_true, decide_eq_true_eq, decide_eq_false_iff_not, gd_st, gd_sf, exists_eq_left', exists_eq_left, Option.some.injEq, Sl.eta, Nat.reduceLeDiff, Int.reduceLE, Int.reduceLT, Int.reduceEq, Int.reduceNe, Nat.reduceMul, Nat.reduceAdd, Nat.reduceSub, Int.toNat_natCast, beq_iff_eq, bne_iff_ne, beq_eq_false_iff_ne, bne_eq_false_iff_eq, pick_and, pick_or, Bool.and_eq_true, Bool.or_eq_true, Bool.and_eq_false_iff, Bool.or_eq_false_iff, ne_eq, not_false_eq_true, Bool.not_eq_true', Bool.not_eq_false', reduceCtorEq, Nat.le_refl, Nat.zero_mul, Nat.mul_one, Nat.zero_add, Int.reduceToNat, ones, one, add_mk, Decidable.not_not, cond_true, cond_false, true_implies, false_implies, implies_true, Bool.not_true, Bool.not_false]
    intro w2 hq2
    have hx2 := hx1.trans hq2.ext
    have h2 := h.ext hx2
    have hb2 := h2.blk
    simp only [hb2.cell, List.getElem?_cons_zero, List.getElem?_cons_succ, ex_sl, Value.int.injEq, Value.bool.injEq, Value.pointer.injEq, Value.string.injEq, eq_self, false_or, or_false, true_and, and_true, decide_eq_true_eq, decide_eq_false_iff_not, gd_st, gd_sf, exists_eq_left', exists_eq_left, Option.some.injEq, Sl.eta, Nat.reduceLeDiff, Int.reduceLE, Int.reduceLT, Int.reduceEq, Int.reduceNe, Nat.reduceMul, Nat.reduceAdd, Nat.reduceSub, Int.toNat_natCast, beq_iff_eq, bne_iff_ne, beq_eq_false_iff_ne, bne_eq_false_iff_eq, pick_and, pick_or, Bool.and_eq_true, Bool.or_eq_true, Bool.and_eq_false_iff, Bool.or_eq_false_iff, ne_eq, not_false_eq_true, Bool.not_eq_true', Bool.not_eq_false', reduceCtorEq, Nat.le_refl, Nat.zero_mul, Nat.mul_one, Nat.zero_add, Int.reduceToNat, ones, one, add_mk, Decidable.not_not, cond_true, cond_false, true_implies, false_implies, implies_true, Bool.not_true, Bool.not_false]
    have ew : IntKind.i64.wrap ((s.k : Int) + (i : Int)) = ((s.k + i : Nat) : Int) := by rw [wrap_i64 (by omega) (by omega)]; push_cast; rfl
    rw [ew]
    refine ⟨fun hend => ⟨?_⟩, fun hne => ⟨by omega, by omega, ?_⟩⟩
    · rw [show ((sl.n : Nat) : Int) = ((bs.length : Nat) : Int) by rw [hl]]
      refine fin _ _ w2 hx2 ?_
      rw [e0, hpar, List.drop_of_length_le (by omega)]
      rfl
    · obtain ⟨p, x, hpa, hx, hc⟩ := h2.own.rd.byte (s.k + i) (by omega)
      have hx8 : x < 256 := h.byt x (List.mem_of_getElem? hx)
      rw [drop_cons hx] at hpar
      rw [Int.toNat_natCast]
      refine ⟨p, hpa, x, by rw [Nat.mul_one] at hc; exact hc, fun w3 hq3 => ?_⟩
      have hx3 := hx2.trans hq3.ext
      have h3 := h.ext hx3
      have hb3 := h3.blk
      have bad : parse (bs.drop s.k) 0 0 = some none → Calls Tryd.prog 16 #[.pointer (some ⟨g, 0, none⟩), .int .i64 s.k, .int .i64 4] w3 fun en w' =>
        ∃ v, en = .returned v ∧ Ending.returned (.int .u64 0) = .returned (.int .u64 (s.uint bs most e).1) ∧ Rdr w' B g bs (s.uint bs most e).2 sl ∧ Upd (· = g) w w' :=
        fun hbad => fin _ _ w3 hx3 (by rw [e0, hbad])
      refine ⟨fun w' => w' = w3 ∧ ¬ (i = 9 ∧ 1 < x), ⟨fun h9 => ⟨fun h1x => ?_, fun h1x => ⟨rfl, by omega⟩⟩, fun h9 => ⟨rfl, by omega⟩⟩, ?_⟩
      · simp only [hb3.cell, List.getElem?_cons_zero, List.getElem?_cons_succ, ex_sl, Value.int.injEq, Value.bool.injEq, Value.pointer.injEq, Value.string.injEq, eq_self, false_or, or_false, true_and, and_true, decide_eq_true_eq, decide_eq_false_iff_not, gd_st, gd_sf, exists_eq_left', exists_eq_left, Option.some.injEq, Sl.eta, Nat.reduceLeDiff, Int.reduceLE, Int.reduceLT, Int.reduceEq, Int.reduceNe, Nat.reduceMul, Nat.reduceAdd, Nat.reduceSub, Int.toNat_natCast, beq_iff_eq, bne_iff_ne, beq_eq_false_iff_ne, bne_eq_false_iff_eq, pick_and, pick_or, Bool.and_eq_true, Bool.or_eq_true, Bool.and_eq_false_iff, Bool.or_eq_false_iff, ne_eq, not_false_eq_true, Bool.not_eq_true', Bool.not_eq_false', reduceCtorEq, Nat.le_refl, Nat.zero_mul, Nat.mul_one, Nat.zero_add, Int.reduceToNat, ones, one, add_mk, Decidable.not_not, cond_true, cond_false, true_implies, false_implies, implies_true, Bool.not_true, Bool.not_false]
        exact ⟨bad (by rw [hpar]; simp only [parse]; rw [if_pos ⟨by omega, by omega⟩])⟩
      · rintro _ w4 ⟨rfl, hgood⟩
        rw [step_or acc x i hacc hi hx8 (by omega), wrap_i64 (n := (i : Int) + 1) (by omega) (by omega), wrap_i64 (n := 7 * (i : Int)) (by omega) (by omega)]
        have hpar' : parse (bs.drop s.k) 0 0 = if x < 128 then (if x = 0 ∧ 0 < i then some none else some (some (acc + x * 128 ^ i, i + 1))) else parse (bs.drop (s.k + i + 1)) (i + 1) (acc + (x % 128) * 128 ^ i) := by
          rw [hpar]; simp only [parse]; rw [if_neg hgood]
        have ok : x < 128 → ¬ (x = 0 ∧ 0 < i) → ∃ acc_1 i_1 : Nat, ((acc + x % 128 * 128 ^ i : Nat) : Int) = (acc_1 : Int) ∧ (i : Int) + 1 = (i_1 : Int) ∧ parse (bs.drop s.k) 0 0 = some (some (acc_1, i_1)) ∧ s.k + i_1 ≤ bs.length ∧ Ext w w4 := by
          intro hx1 hx2
          refine ⟨_, i + 1, rfl, by push_cast; rfl, ?_, by omega, hx3⟩
          rw [hpar', if_pos hx1, if_neg hx2, Nat.mod_eq_of_lt hx1]
        refine ⟨by omega, fun hx1 => ⟨fun hx0 => ⟨fun hi1 => ?_, fun hi1 => ok (by omega) (by omega)⟩, fun hx0 => ok (by omega) (by omega)⟩, fun hx1 => ⟨⟨_, i + 1, rfl, by push_cast; rfl, step_lt acc x i hacc, by omega, ?_, by omega, hx3⟩, by omega⟩⟩
        · simp only [hb3.cell, List.getElem?_cons_zero, List.getElem?_cons_succ, ex_sl, Value.int.injEq, Value.bool.injEq, Value.pointer.injEq, Value.string.injEq, eq_self, false_or, or_false, true_and, and_true, decide_eq_true_eq, decide_eq_false_iff_not, gd_st, gd_sf, exists_eq_left', exists_eq_left, Option.some.injEq, Sl.eta, Nat.reduceLeDiff, Int.reduceLE, Int.reduceLT, Int.reduceEq, Int.reduceNe, Nat.reduceMul, Nat.reduceAdd, Nat.reduceSub, Int.toNat_natCast, beq_iff_eq, bne_iff_ne, beq_eq_false_iff_ne, bne_eq_false_iff_eq, pick_and, pick_or, Bool.and_eq_true, Bool.or_eq_true, Bool.and_eq_false_iff, Bool.or_eq_false_iff, ne_eq, not_false_eq_true, Bool.not_eq_true', Bool.not_eq_false', reduceCtorEq, Nat.le_refl, Nat.zero_mul, Nat.mul_one, Nat.zero_add, Int.reduceToNat, ones, one, add_mk, Decidable.not_not, cond_true, cond_false, true_implies, false_implies, implies_true, Bool.not_true, Bool.not_false]
          exact ⟨bad (by rw [hpar', if_pos (by omega), if_pos ⟨by omega, by omega⟩])⟩
        · rw [hpar', if_neg (by omega)]
          rfl
  · rintro _ n z w1 ⟨acc, i, rfl, rfl, hpar, hki, hx1⟩
    have h1 := h.ext hx1
    have hb1 := h1.blk
    have e2 : s.uint bs most e = if most < acc ∧ e ≠ 0 then (0, s.fail s.k e) else (acc, ⟨s.k + i, s.pl, s.er⟩) := by rw [e0, hpar]
    have good : ¬ (most < acc ∧ e ≠ 0) → ∃ m : Int, w1.cell? ⟨g, 1, none⟩ = some (.int .i64 m) ∧ CanSet w1 ⟨g, 1, none⟩ 1 ∧ ∀ w3, SetW w1 ⟨g, 1, none⟩ [.int .i64 (IntKind.i64.wrap (m + (i : Int)))] w3 →
        Ending.returned (.int .u64 (acc : Nat)) = .returned (.int .u64 ((s.uint bs most e).1 : Nat)) ∧ Rdr w3 B g bs (s.uint bs most e).2 sl ∧ Upd (· = g) w w3 := by
      intro hne
      rw [if_neg hne] at e2
      refine ⟨_, hb1.cell 1, hb1.canSet 1 (by simp), fun w3 h3 => ?_⟩
      have hb3 := h3.blk1 hb1
      rw [wrap_i64 (by omega) (by omega)] at hb3
      rw [e2]
      refine ⟨rfl, h1.turn h3.upd (by simpa using hb3) hki, hx1.upd h3.upd⟩
    refine ⟨fun hm => ⟨fun he => ?_, fun he => good fun h => h.2 he⟩, fun hm => good fun h => by omega⟩
    simp only [hb1.cell, List.getElem?_cons_zero, List.getElem?_cons_succ, ex_sl, Value.int.injEq, Value.bool.injEq, Value.pointer.injEq, Value.string.injEq, eq_self, false_or, or_false, true_and, and_true, decide_eq_true_eq, decide_eq_false_iff_not, gd_st, gd_sf, exists_eq_left', exists_eq_left, Option.some.injEq, Sl.eta, Nat.reduceLeDiff, Int.reduceLE, Int.reduceLT, Int.reduceEq, Int.reduceNe, Nat.reduceMul, Nat.reduceAdd, Nat.reduceSub, Int.toNat_natCast, beq_iff_eq, bne_iff_ne, beq_eq_false_iff_ne, bne_eq_false_iff_eq, pick_and, pick_or, Bool.and_eq_true, Bool.or_eq_true, Bool.and_eq_false_iff, Bool.or_eq_false_iff, ne_eq, not_false_eq_true, Bool.not_eq_true', Bool.not_eq_false', reduceCtorEq, Nat.le_refl, Nat.zero_mul, Nat.mul_one, Nat.zero_add, Int.reduceToNat, ones, one, add_mk, Decidable.not_not, cond_true, cond_false, true_implies, false_implies, implies_true, Bool.not_true, Bool.not_false]
    exact ⟨fin _ _ w1 hx1 (by rw [e2, if_pos ⟨by omega, he⟩])⟩

/-- the number below 0 folded back -/
def unfold_ (n : Nat) : Int := if n % 2 = 1 then -((n / 2 : Nat) : Int) - 1 else ((n / 2 : Nat) : Int)
def RS.int (bs : List Nat) (s : RS) : Int × RS := (unfold_ (s.uint bs 0 0).1, (s.uint bs 0 0).2)
end
end Go.Proofs.YtihnjjmbcbfheaaDoor.V
