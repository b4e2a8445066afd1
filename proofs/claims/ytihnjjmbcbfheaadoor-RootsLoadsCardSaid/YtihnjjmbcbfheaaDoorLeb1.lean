/-
  Package leb, and what the document has for it: writing.
-/
import Derived.Test.YtihnjjmbcbfheaaDoorArith
import Derived.Test.YtihnjjmbcbfheaaDoorVcA
import Derived.Test.YtihnjjmbcbfheaaDoorVcB
namespace Go.Proofs.YtihnjjmbcbfheaaDoor.V
open Go Go.RowKit
set_option linter.unusedVariables false
set_option linter.unusedSimpArgs false

/-- a number's form -/
def form (n : Nat) : List Nat := if n < 128 then [n] else (128 + n % 128) :: form (n / 128)
termination_by n
decreasing_by omega
theorem form_small {n : Nat} (h : n < 128) : form n = [n] := by rw [form, if_pos h]
theorem form_big {n : Nat} (h : ¬ n < 128) : form n = (128 + n % 128) :: form (n / 128) := by rw [form, if_neg h]
theorem form_len_le : ∀ (k n : Nat), n < 128 ^ (k + 1) → (form n).length ≤ k + 1 := by
  intro k
  induction k with
  | zero => intro n h; rw [form_small (by simpa using h)]; simp
  | succ k ih =>
    intro n h
    by_cases hn : n < 128
    · rw [form_small hn]; simp
    · rw [form_big hn]
      have := ih (n / 128) (by rw [Nat.div_lt_iff_lt_mul (by decide)]; rw [Nat.pow_succ] at h; exact h)
      simp; omega
theorem form_len (n : Nat) (h : n < 18446744073709551616) : (form n).length ≤ 10 := form_len_le 9 n (Nat.lt_trans h (by decide))
theorem form_pos (n : Nat) : 1 ≤ (form n).length := by
  by_cases hn : n < 128
  · rw [form_small hn]; simp
  · rw [form_big hn]; simp
set_option maxRecDepth 100000 in
theorem or128 (n : Nat) : bitV .or .u8 (IntKind.u8.wrap (n : Int)) 128 = ((128 + n % 128 : Nat) : Int) := by
  have e : IntKind.u8.wrap (n : Int) = ((n % 256 : Nat) : Int) := by rw [wrap_u8']; omega
  rw [e, show (128 : Int) = ((128 : Nat) : Int) from rfl, or_u8 _ _ (by omega) (by omega)]
  have key : ∀ m : Fin 256, m.val ||| 128 = 128 + m.val % 128 := by decide
  have := key ⟨n % 256, by omega⟩
  simp only at this
  rw [this]
  congr 2
  omega
theorem shr7 (n : Nat) : shrV .u64 (n : Int) 7 = ((n / 128 : Nat) : Int) := shr_nat .u64 n 7 (by decide)
theorem own_one {w w1 : World} {x : Int} {e : Nat} (h : NewW w (.cells #[.int .u8 x] e) w1) : Rd w1 1 ⟨some ⟨w.heap.size, 0, none⟩, 1, 1⟩ [.int .u8 x] :=
  (Blk.new h).rd (by simp)
theorem len_append {a b : List Nat} {n m : Nat} (ha : a.length = n) (hb : b.length = m) : (a ++ b).length = n + m := by simp [ha, hb]

/-- a byte laid behind a row of the call's own -/
theorem app_byte {w w1 : World} {B : Nat} {s : Sl} {l : List Nat} {x : Nat} {v : Int} (ho : Own w B 5 1 s (bv l)) (h : NewW w (.cells #[.int .u8 v] 5) w1) (hv : v = (x : Int)) (hl : s.n + 1 ≤ 140737488355328) (hB : B ≤ w.heap.size) :
    ∃ r w', Runs Tryd.prog (Builtin.append_ #[22, 22] 22 #[.slice s.a s.n s.c, .slice (some ⟨w.heap.size, 0, none⟩) 1 1]) w1 (.slice r.a r.n r.c) w' ∧ r.n = s.n + 1 ∧
      Own w' B 5 1 r (bv (l ++ [x])) ∧ Upd (fun k => ∃ p, s.a = some p ∧ k = p.block) w w' ∧ (∀ p, r.a = some p → s.a = some p ∨ w.heap.size ≤ p.block) := by
  obtain ⟨r, w4, hap, hrn, ho4, hu4, hn4⟩ := (ho.ext h.ext).append (t := 22) (ty := 22) tab_ok rfl rfl (by decide) (own_one h) (by simp [one]) (by simp; omega) (by simp; omega)
      (Nat.le_trans hB h.ext.size)
  subst hv
  refine ⟨r, w4, hap, hrn, ?_, h.ext.upd hu4, fun p hp => (hn4 p hp).imp id fun h' => Nat.le_trans h.ext.size h'⟩
  rw [bv_append]
  exact ho4

theorem put_spec (s : Sl) (xs : List Nat) (n : Nat) (w : World) (hr : Rd w 1 s (bv xs)) (hn : n < 18446744073709551616) (hl : s.n ≤ 140737488355300) :
    Calls Tryd.prog 33 #[.slice s.a s.n s.c, .int .u64 n] w fun e w' =>
      ∃ r : Sl, e = .returned (.slice r.a r.n r.c) ∧ Own w' w.heap.size 5 1 r (bv (xs ++ form n)) ∧ Ext w w' := by
  have hxl := hr.lenb
  refine vc_33 _ _ _ _ ?_
  have e1 : IntKind.i64.wrap ((s.n : Int) + 10) = ((s.n + 10 : Nat) : Int) := by rw [wrap_i64 (by omega) (by omega)]; push_cast; rfl
  simp only [eq_self, false_or, or_false, true_and, and_true, decide_eq_true_eq, decide_eq_false_iff_not, gd_st, gd_sf, exists_eq_left', exists_eq_left, Option.some.injEq, Sl.eta, Nat.reduceLeDiff, Int.reduceLE, Int.reduceLT, Int.reduceEq, Int.reduceNe, Nat.reduceMul, Nat.reduceAdd, Nat.reduceSub, Int.toNat_natCast, beq_iff_eq, bne_iff_ne, beq_eq_false_iff_ne, bne_eq_false_iff_eq, pick_and, pick_or, Bool.and_eq_true, Bool.or_eq_true, Bool.and_eq_false_iff, Bool.or_eq_false_iff, ne_eq, not_false_eq_true, Bool.not_eq_true', Bool.not_eq_false', reduceCtorEq, Nat.le_refl, Nat.zero_mul, Nat.mul_one, Nat.zero_add, Int.reduceToNat, ones, one, add_mk, Decidable.not_not, cond_true, cond_false, true_implies, false_implies, implies_true, Bool.not_true, Bool.not_false]
  simp only [e1, Int.toNat_natCast]
  refine ⟨⟨by omega, by omega, by omega, by omega⟩, fun w1 h1 => ?_⟩
  have ho1 := Own.made h1 (Nat.le_refl _) (show s.n ≤ s.n + 10 by omega) (by omega)
  obtain ⟨w2, hc, ho2, hu2, hs2⟩ := ho1.copy (t1 := 22) (t2 := 22) (ty := 3) tab_ok rfl rfl (hr.ext h1.ext) (bv_ones xs)
  have hx2 : Ext w w2 := h1.ext.fresh hu2 (by rintro i ⟨p, hp, rfl⟩; injection hp with hp; subst hp; exact Nat.le_refl _)
  refine ⟨_, w2, hc, ?_⟩
  simp only [Nat.min_self] at ho2
  rw [List.take_of_length_le (by simp; omega), List.drop_of_length_le (by simp), List.append_nil] at ho2
  refine ⟨fun m s' w' => ∃ (k : Nat) (acc : List Nat), m = (k : Int) ∧ k ≤ n ∧ acc ++ form k = form n ∧ Own w' w.heap.size 5 1 s' (bv (xs ++ acc)) ∧ Ext w w', fun m _ _ => m.toNat,
    ⟨n, [], rfl, Nat.le_refl _, rfl, by simpa using ho2, hx2⟩, ?_⟩
  rintro _ m s' w' ⟨k, acc, rfl, hkn, hacc, ho, hx⟩
  have hlen := form_len n hn
  have hlacc : acc.length + (form k).length ≤ 10 := by rw [← List.length_append, hacc]; exact hlen
  have hfp := form_pos k
  have hsn : s'.n = s.n + acc.length := by
    have := ho.len1
    rw [bv_length, List.length_append] at this
    omega
  refine ⟨fun hk w3 h3 => ?_, fun hk w3 h3 => ?_⟩
  · have hb : ¬ k < 128 := by omega
    obtain ⟨r, w4, hap, hrn, ho4, hu4, _⟩ := app_byte ho h3 (or128 k) (by omega) hx.size
    refine ⟨r, w4, hap, ⟨k / 128, acc ++ [128 + k % 128], shr7 k, by omega, by rw [← hacc, form_big hb]; simp, by rw [← List.append_assoc]; exact ho4, ?_⟩, ?_⟩
    · exact hx.fresh hu4 (by rintro i ⟨p, hp, rfl⟩; exact (ho.base p hp).1)
    · show (shrV .u64 (k : Int) 7).toNat < (k : Int).toNat
      rw [shr7]; omega
  · have hb : k < 128 := by omega
    obtain ⟨r, w4, hap, hrn, ho4, hu4, _⟩ := app_byte (x := k) ho h3 (by rw [wrap_u8']; omega) (by omega) hx.size
    refine ⟨r, w4, hap, r, rfl, ?_, ?_⟩
    · rw [← hacc, form_small hb, ← List.append_assoc]
      exact ho4
    · exact hx.fresh hu4 (by rintro i ⟨p, hp, rfl⟩; exact (ho.base p hp).1)

/-- what PutInt writes of a number -/
def fold (n : Int) : Nat := if n < 0 then (-(2 * n) - 1).toNat else (2 * n).toNat
theorem fold_lt {n : Int} (h0 : -9223372036854775808 ≤ n) (h1 : n ≤ 9223372036854775807) : fold n < 18446744073709551616 := by
  unfold fold; split <;> omega
theorem xor_ones (x : Nat) (hx : x < 18446744073709551616) : x ^^^ 18446744073709551615 = 18446744073709551615 - x := by
  have := BitVec.toNat_not (x := BitVec.ofNat 64 x)
  have h2 : (BitVec.ofNat 64 x ^^^ BitVec.allOnes 64).toNat = 2 ^ 64 - 1 - (BitVec.ofNat 64 x).toNat := by
    rw [BitVec.xor_allOnes]; exact this
  rw [BitVec.toNat_xor] at h2
  simp at h2
  rw [Nat.mod_eq_of_lt (by omega)] at h2
  exact h2
theorem fold_bits {n : Int} (h0 : -9223372036854775808 ≤ n) (h1 : n ≤ 9223372036854775807) :
    bitV .xor .u64 (IntKind.u64.wrap (shlV .i64 n 1)) (IntKind.u64.wrap (shrV .i64 n 63)) = (fold n : Int) := by
  have e1 : IntKind.u64.wrap (shlV .i64 n 1) = ((2 * n % 18446744073709551616).toNat : Int) := by
    unfold shlV
    rw [show (2 : Int) ^ min (1 : Int).toNat IntKind.i64.bits = 2 from rfl, wrap_u64', wrap_i64']
    omega
  have e2 : shrV .i64 n 63 = if n < 0 then -1 else 0 := by
    unfold shrV
    rw [show (2 : Int) ^ min (63 : Int).toNat IntKind.i64.bits = 9223372036854775808 from rfl, Int.fdiv_eq_ediv_of_nonneg _ (by decide)]
    split <;> omega
  rw [e1, e2]
  unfold fold
  by_cases hn : n < 0
  · rw [if_pos hn, if_pos hn]
    have e3 : IntKind.u64.wrap (-1) = ((18446744073709551615 : Nat) : Int) := by rw [wrap_u64']; rfl
    rw [e3, xor_u64 _ _ (by omega) (by omega), xor_ones _ (by omega)]
    omega
  · rw [if_neg hn, if_neg hn]
    have e3 : IntKind.u64.wrap 0 = ((0 : Nat) : Int) := by rw [wrap_u64']; rfl
    rw [e3, xor_u64 _ _ (by omega) (by omega), Nat.xor_zero]
    omega

end Go.Proofs.YtihnjjmbcbfheaaDoor.V
