/-
  Numbers of a width: wraps, shifts, bits.
-/
import Derived.Test.YtihnjjmbcbfheaaDoorMem
namespace Go.Proofs.YtihnjjmbcbfheaaDoor.V
open Go Go.RowKit
set_option linter.unusedVariables false
set_option linter.unusedSimpArgs false

theorem wrap_i64 {n : Int} (h0 : -9223372036854775808 ≤ n) (h1 : n ≤ 9223372036854775807) : IntKind.i64.wrap n = n := IntWalk.i64_in n ⟨h0, h1⟩
theorem wrap_u64 {n : Int} (h0 : 0 ≤ n) (h1 : n ≤ 18446744073709551615) : IntKind.u64.wrap n = n := by
  simp [IntKind.wrap, IntKind.signed, IntKind.bits]; omega
theorem wrap_u64' (n : Int) : IntKind.u64.wrap n = n % 18446744073709551616 := by
  simp [IntKind.wrap, IntKind.signed, IntKind.bits]
theorem wrap_u8' (n : Int) : IntKind.u8.wrap n = n % 256 := by
  simp [IntKind.wrap, IntKind.signed, IntKind.bits]
theorem wrap_u32' (n : Int) : IntKind.u32.wrap n = n % 4294967296 := by
  simp [IntKind.wrap, IntKind.signed, IntKind.bits]
theorem wrap_i64' (n : Int) : IntKind.i64.wrap n = (n + 9223372036854775808) % 18446744073709551616 - 9223372036854775808 := by
  have e : IntKind.i64.wrap n = if n % 18446744073709551616 ≥ 9223372036854775808 then n % 18446744073709551616 - 18446744073709551616 else n % 18446744073709551616 := by
    simp [IntKind.wrap, IntKind.signed, IntKind.bits]
  rw [e]
  split <;> omega
theorem bitV_nat (op : BinOp) (k : IntKind) (x y : Nat) (hx : x < 2 ^ k.bits) (hy : y < 2 ^ k.bits) :
    bitV op k x y = k.wrap ((match op with
      | .and => x &&& y
      | .or => x ||| y
      | .xor => x ^^^ y
      | _ => (BitVec.ofNat k.bits x &&& ~~~ BitVec.ofNat k.bits y).toNat : Nat) : Int) := by
  have ex : BitVec.ofInt k.bits (x : Int) = BitVec.ofNat k.bits x := by
    apply BitVec.eq_of_toNat_eq; simp
  have ey : BitVec.ofInt k.bits (y : Int) = BitVec.ofNat k.bits y := by
    apply BitVec.eq_of_toNat_eq; simp
  unfold bitV
  rw [ex, ey]
  cases op <;> simp [Nat.mod_eq_of_lt hx, Nat.mod_eq_of_lt hy]
theorem and_u64 (x y : Nat) (hx : x < 18446744073709551616) (hy : y < 18446744073709551616) : bitV .and .u64 x y = ((x &&& y : Nat) : Int) := by
  rw [bitV_nat _ _ _ _ (by simpa [IntKind.bits] using hx) (by simpa [IntKind.bits] using hy)]
  have : x &&& y ≤ x := Nat.and_le_left
  show IntKind.u64.wrap ((x &&& y : Nat) : Int) = _
  exact wrap_u64 (by omega) (by omega)
theorem or_u64 (x y : Nat) (hx : x < 18446744073709551616) (hy : y < 18446744073709551616) : bitV .or .u64 x y = ((x ||| y : Nat) : Int) := by
  rw [bitV_nat _ _ _ _ (by simpa [IntKind.bits] using hx) (by simpa [IntKind.bits] using hy)]
  have : x ||| y < 2 ^ 64 := Nat.or_lt_two_pow (by omega) (by omega)
  show IntKind.u64.wrap ((x ||| y : Nat) : Int) = _
  exact wrap_u64 (by omega) (by omega)
theorem xor_u64 (x y : Nat) (hx : x < 18446744073709551616) (hy : y < 18446744073709551616) : bitV .xor .u64 x y = ((x ^^^ y : Nat) : Int) := by
  rw [bitV_nat _ _ _ _ (by simpa [IntKind.bits] using hx) (by simpa [IntKind.bits] using hy)]
  have : x ^^^ y < 2 ^ 64 := Nat.xor_lt_two_pow (by omega) (by omega)
  show IntKind.u64.wrap ((x ^^^ y : Nat) : Int) = _
  exact wrap_u64 (by omega) (by omega)
theorem and_u8 (x y : Nat) (hx : x < 256) (hy : y < 256) : bitV .and .u8 x y = ((x &&& y : Nat) : Int) := by
  rw [bitV_nat _ _ _ _ (by simpa [IntKind.bits] using hx) (by simpa [IntKind.bits] using hy)]
  have : x &&& y ≤ x := Nat.and_le_left
  show IntKind.u8.wrap ((x &&& y : Nat) : Int) = _
  rw [wrap_u8']
  omega
theorem or_u8 (x y : Nat) (hx : x < 256) (hy : y < 256) : bitV .or .u8 x y = ((x ||| y : Nat) : Int) := by
  rw [bitV_nat _ _ _ _ (by simpa [IntKind.bits] using hx) (by simpa [IntKind.bits] using hy)]
  have : x ||| y < 2 ^ 8 := Nat.or_lt_two_pow (by omega) (by omega)
  show IntKind.u8.wrap ((x ||| y : Nat) : Int) = _
  rw [wrap_u8']
  omega
theorem shr_nat (k : IntKind) (x n : Nat) (hn : n ≤ k.bits) : shrV k x n = ((x / 2 ^ n : Nat) : Int) := by
  unfold shrV
  rw [Int.toNat_natCast, Nat.min_eq_left hn]
  rw [Int.fdiv_eq_ediv_of_nonneg _ (Int.le_of_lt (Int.pow_pos (by decide)))]
  norm_cast
theorem shl_u64 (x n : Nat) (hn : n ≤ 64) : shlV .u64 x n = ((x * 2 ^ n % 18446744073709551616 : Nat) : Int) := by
  unfold shlV
  rw [Int.toNat_natCast, Nat.min_eq_left (by simpa [IntKind.bits] using hn), wrap_u64']
  rw [show ((x : Int) * 2 ^ n) = ((x * 2 ^ n : Nat) : Int) by push_cast; rfl]
  omega

/-- lists of cells -/
def bv (l : List Nat) : List Value := l.map fun (x : Nat) => Value.int .u8 (x : Int)
def uv (l : List Nat) : List Value := l.map fun (x : Nat) => Value.int .u64 (x : Int)
def iv (l : List Int) : List Value := l.map fun (x : Int) => Value.int .i64 x
theorem bv_ones (l : List Nat) : ∀ v ∈ bv l, one v := by
  intro v h
  obtain ⟨x, _, rfl⟩ := List.mem_map.1 h
  trivial
theorem uv_ones (l : List Nat) : ∀ v ∈ uv l, one v := by
  intro v h
  obtain ⟨x, _, rfl⟩ := List.mem_map.1 h
  trivial
theorem iv_ones (l : List Int) : ∀ v ∈ iv l, one v := by
  intro v h
  obtain ⟨x, _, rfl⟩ := List.mem_map.1 h
  trivial
@[simp] theorem bv_length (l : List Nat) : (bv l).length = l.length := by simp [bv]
@[simp] theorem uv_length (l : List Nat) : (uv l).length = l.length := by simp [uv]
@[simp] theorem iv_length (l : List Int) : (iv l).length = l.length := by simp [iv]
theorem bv_append (a b : List Nat) : bv (a ++ b) = bv a ++ bv b := by simp [bv]
theorem uv_append (a b : List Nat) : uv (a ++ b) = uv a ++ uv b := by simp [uv]
theorem iv_append (a b : List Int) : iv (a ++ b) = iv a ++ iv b := by simp [iv]
theorem bv_take (l : List Nat) (n : Nat) : (bv l).take n = bv (l.take n) := by simp [bv]
theorem bv_drop (l : List Nat) (n : Nat) : (bv l).drop n = bv (l.drop n) := by simp [bv]
theorem bv_set (l : List Nat) (i x : Nat) : (bv l).set i (.int .u8 x) = bv (l.set i x) := by simp [bv]
theorem uv_set (l : List Nat) (i x : Nat) : (uv l).set i (.int .u64 x) = uv (l.set i x) := by simp [uv]
theorem bv_get (l : List Nat) (i : Nat) (v : Value) (h : (bv l)[i]? = some v) : ∃ x, l[i]? = some x ∧ v = .int .u8 x := by
  simp only [bv, List.getElem?_map] at h
  cases hx : l[i]? with
  | none => rw [hx] at h; cases h
  | some x => rw [hx] at h; injection h with h; exact ⟨x, rfl, h.symm⟩
theorem uv_get (l : List Nat) (i : Nat) (v : Value) (h : (uv l)[i]? = some v) : ∃ x, l[i]? = some x ∧ v = .int .u64 x := by
  simp only [uv, List.getElem?_map] at h
  cases hx : l[i]? with
  | none => rw [hx] at h; cases h
  | some x => rw [hx] at h; injection h with h; exact ⟨x, rfl, h.symm⟩
theorem iv_get (l : List Int) (i : Nat) (v : Value) (h : (iv l)[i]? = some v) : ∃ x, l[i]? = some x ∧ v = .int .i64 x := by
  simp only [iv, List.getElem?_map] at h
  cases hx : l[i]? with
  | none => rw [hx] at h; cases h
  | some x => rw [hx] at h; injection h with h; exact ⟨x, rfl, h.symm⟩
section
variable {w : World} {s : Sl}
theorem Rd.byte {l : List Nat} (h : Rd w 1 s (bv l)) (i : Nat) (hi : i < s.n) : ∃ p x, s.a = some p ∧ l[i]? = some x ∧ w.cell? (p.add (i * 1)) = some (.int .u8 x) := by
  obtain ⟨p, v, hp, hv, hc⟩ := h.at1 i hi
  obtain ⟨x, hx, rfl⟩ := bv_get l i v hv
  exact ⟨p, x, hp, hx, by rw [Nat.mul_one]; exact hc⟩
theorem Rd.word {l : List Nat} (h : Rd w 1 s (uv l)) (i : Nat) (hi : i < s.n) : ∃ p x, s.a = some p ∧ l[i]? = some x ∧ w.cell? (p.add (i * 1)) = some (.int .u64 x) := by
  obtain ⟨p, v, hp, hv, hc⟩ := h.at1 i hi
  obtain ⟨x, hx, rfl⟩ := uv_get l i v hv
  exact ⟨p, x, hp, hx, by rw [Nat.mul_one]; exact hc⟩
theorem Rd.intl {l : List Int} (h : Rd w 1 s (iv l)) (i : Nat) (hi : i < s.n) : ∃ p x, s.a = some p ∧ l[i]? = some x ∧ w.cell? (p.add (i * 1)) = some (.int .i64 x) := by
  obtain ⟨p, v, hp, hv, hc⟩ := h.at1 i hi
  obtain ⟨x, hx, rfl⟩ := iv_get l i v hv
  exact ⟨p, x, hp, hx, by rw [Nat.mul_one]; exact hc⟩
theorem Rd.lenb {l : List Nat} (h : Rd w 1 s (bv l)) : l.length = s.n := by simpa using h.len1
theorem Rd.lenu {l : List Nat} (h : Rd w 1 s (uv l)) : l.length = s.n := by simpa using h.len1
theorem Rd.leni {l : List Int} (h : Rd w 1 s (iv l)) : l.length = s.n := by simpa using h.len1
end
end Go.Proofs.YtihnjjmbcbfheaaDoor.V
