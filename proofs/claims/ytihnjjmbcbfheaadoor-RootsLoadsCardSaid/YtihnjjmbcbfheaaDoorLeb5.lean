/-
  Package leb: numbers below 0 read; bytes as text; the document's example.
-/
import Derived.Test.YtihnjjmbcbfheaaDoorLeb4
import Derived.Laws.BytesArg
namespace Go.Proofs.YtihnjjmbcbfheaaDoor.V
open Go Go.RowKit
set_option linter.unusedVariables false
set_option linter.unusedSimpArgs false

theorem parse_lt : ∀ (l : List Nat) (i acc n z : Nat), acc < 128 ^ i → i ≤ 9 → parse l i acc = some (some (n, z)) → n < 18446744073709551616
  | [], i, acc, n, z, _, _, h => by cases h
  | c :: l, i, acc, n, z, ha, hi, h => by
    unfold parse at h
    split at h
    · cases h
    · rename_i h9
      split at h
      · rename_i hc
        split at h
        · cases h
        · injection h with h; injection h with h; injection h with h1 h2
          subst h1
          rcases Nat.lt_or_ge i 9 with hlt | hge
          · have := step_lt acc c i ha
            rw [Nat.mod_eq_of_lt hc] at this
            have h2 : 128 ^ (i + 1) ≤ 128 ^ 9 := Nat.pow_le_pow_right (by decide) (by omega)
            omega
          · obtain rfl : i = 9 := by omega
            have h3 : c * 128 ^ 9 ≤ 1 * 128 ^ 9 := Nat.mul_le_mul_right _ (by omega)
            omega
      · rename_i hc
        refine parse_lt l (i + 1) _ n z (step_lt acc c i ha) ?_ h
        omega
theorem RS.uint_lt (bs : List Nat) (s : RS) (most : Nat) (e : Int) : (s.uint bs most e).1 < 18446744073709551616 := by
  unfold RS.uint
  have z0 : (0 : Nat) < 18446744073709551616 := by decide
  split
  · exact z0
  · split
    · exact z0
    · exact z0
    · rename_i n z hp
      split
      · exact z0
      · exact parse_lt _ 0 0 n z (by decide) (by omega) hp
theorem xor_i64_ones (x : Nat) (hx : x < 9223372036854775808) : bitV .xor .i64 (x : Int) (-1) = -(x : Int) - 1 := by
  have e1 : BitVec.ofInt IntKind.i64.bits (x : Int) = BitVec.ofNat 64 x := by
    apply BitVec.eq_of_toNat_eq; simp [IntKind.bits]
  have e2 : BitVec.ofInt IntKind.i64.bits (-1) = BitVec.allOnes 64 := by
    show BitVec.ofInt 64 (-1) = BitVec.allOnes 64
    decide
  unfold bitV
  rw [e1, e2]
  simp only []
  have h2 : (BitVec.ofNat 64 x ^^^ BitVec.allOnes 64).toNat = 18446744073709551615 - x := by
    rw [BitVec.xor_allOnes, BitVec.toNat_not]
    simp
    omega
  have h3 : ((BitVec.ofNat 64 x ^^^ BitVec.allOnes 64 : BitVec 64).toNat : Int) = 18446744073709551615 - (x : Int) := by rw [h2]; omega
  show IntKind.i64.wrap ((BitVec.ofNat 64 x ^^^ BitVec.allOnes 64 : BitVec 64).toNat : Int) = _
  rw [h3, wrap_i64']
  omega
theorem xor_i64_zero (x : Nat) (hx : x < 9223372036854775808) : bitV .xor .i64 (x : Int) 0 = (x : Int) := by
  rw [show (0 : Int) = ((0 : Nat) : Int) from rfl, bitV_nat _ _ _ _ (by simp [IntKind.bits]; omega) (by simp [IntKind.bits])]
  show IntKind.i64.wrap ((x ^^^ 0 : Nat) : Int) = _
  rw [Nat.xor_zero, wrap_i64 (by omega) (by omega)]
theorem unfold_bits (n : Nat) (hn : n < 18446744073709551616) :
    bitV .xor .i64 (IntKind.i64.wrap (shrV .u64 (n : Int) 1)) (IntKind.i64.wrap (0 - IntKind.i64.wrap (bitV .and .u64 (n : Int) 1))) = unfold_ n := by
  have e1 : shrV .u64 (n : Int) 1 = ((n / 2 : Nat) : Int) := shr_nat .u64 n 1 (by decide)
  have e2 : bitV .and .u64 (n : Int) 1 = ((n % 2 : Nat) : Int) := by
    rw [show (1 : Int) = ((1 : Nat) : Int) from rfl, and_u64 _ _ hn (by decide), Nat.and_one_is_mod]
  rw [e1, e2, wrap_i64 (n := ((n / 2 : Nat) : Int)) (by omega) (by omega), wrap_i64 (n := ((n % 2 : Nat) : Int)) (by omega) (by omega), wrap_i64 (n := 0 - ((n % 2 : Nat) : Int)) (by omega) (by omega)]
  unfold unfold_
  rcases Nat.mod_two_eq_zero_or_one n with h | h
  · rw [h, if_neg (by decide)]
    exact xor_i64_zero _ (by omega)
  · rw [h, if_pos rfl]
    exact xor_i64_ones _ (by omega)
section
variable {w : World} {B g : Nat} {bs : List Nat} {s : RS} {sl : Sl}
end

/-- bytes as text -/
def strOf (l : List Nat) : ByteArray := ⟨(l.map UInt8.ofNat).toArray⟩
theorem Rd.text {P : Program} {τ : Tab} (hτ : τ.Ok P) {t e d : Nat} (ht : lk τ.und t = some (.slice e)) (he : lk τ.und e = some (.int .u8)) (hd : lk τ.und d = some .string)
    {w : World} {s : Sl} {xs : List Nat} (hr : Rd w 1 s (bv xs)) : Runs P (convert t d (.slice s.a s.n s.c)) w (.string (strOf xs)) w := by
  have hl := hr.lenb
  unfold Runs
  rw [run_convert_bytes_string w t d e s.a s.n s.c (hτ.slice ht) (hτ.int he) (hτ.string hd)]
  cases hn : s.a with
  | none =>
    have : xs = [] := by
      apply List.eq_nil_of_length_eq_zero
      rcases Nat.eq_zero_or_pos xs.length with h | h
      · exact h
      · obtain ⟨p, hp, _⟩ := hr.2 (by omega)
        rw [hn] at hp; cases hp
    subst this
    rfl
  | some a =>
    have hload : (loadCells a s.n).run P w = .ok ((xs.map fun (x : Nat) => (x : Int)).map (Value.int .u8)).toArray w := by
      have h := run_loadCells_list (P := P) w a (bv xs) (fun j v hj => by
        have hpos : 0 < s.n := by
          rcases Nat.eq_zero_or_pos s.n with h0 | h0
          · have : xs = [] := List.eq_nil_of_length_eq_zero (by omega)
            subst this; cases hj
          · exact h0
        obtain ⟨p, hp, hc⟩ := hr.2 hpos
        rw [hn] at hp
        injection hp with hp
        subst hp
        exact hc j v hj)
      rw [bv_length, hl] at h
      rw [h]
      simp [bv]
    rw [run_bytesToString w a s.n s.c _ hload, foldl_push_bytes]
    congr 2
    unfold strOf
    congr 1
    simp only [ByteArray.empty, ByteArray.emptyWithCapacity, List.map_map]
    apply Array.ext'
    rw [Array.toList_append]
    show [] ++ _ = _
    rw [List.nil_append]
    rfl
end Go.Proofs.YtihnjjmbcbfheaaDoor.V
