/-
  Headers, packed and unpacked.
-/
import Derived.Test.YtcmmdaginkhomaaVcA
import Derived.Test.YtcmmdaginkhomaaVcB
import Derived.Test.YtcmmdaginkhomaaOwn2
namespace Go.Proofs.Ytcmmdaginkhomaa.V
open Go Go.RowKit
set_option linter.unusedVariables false
set_option linter.unusedSimpArgs false
set_option maxRecDepth 100000

structure Hd where
  k : Int
  t : Int
  l : Int
  r : Nat
abbrev hdL (h : Hd) : List Value := [.int .i64 h.k, .int .i64 h.t, .int .i64 h.l, .int .u64 (h.r : Nat)]
abbrev hdV (h : Hd) : Value := .agg #[.int .i64 h.k, .int .i64 h.t, .int .i64 h.l, .int .u64 (h.r : Nat)]
def hd0 : Hd := ⟨0, 0, 0, 0⟩
def MayT (h : Hd) : Prop := 0 ≤ h.t ∧ h.t ≤ 255 ∧ 0 ≤ h.l ∧ ((h.k = 1 ∧ h.l ≤ 32 ∧ h.r < 2 ^ h.l.toNat) ∨ ((h.k = 2 ∨ h.k = 3) ∧ h.l ≤ 1000 ∧ h.r = 0))
instance (h : Hd) : Decidable (MayT h) := inferInstanceAs (Decidable (_ ∧ _ ∧ _ ∧ _))
def mayT (h : Hd) : Bool := decide (MayT h)
/-- a header in a block of its own -/
abbrev HB (w : World) (g : Nat) (h : Hd) : Prop := Blk w g 24 (hdL h)
theorem HB.made {w w1 w2 : World} {h : Hd} (n : NewW w (.cells #[.int .i64 0, .int .i64 0, .int .i64 0, .int .u64 0] 24) w1) (s : SetW w1 ⟨w.heap.size, 0, none⟩ [.int .i64 h.k, .int .i64 h.t, .int .i64 h.l, .int .u64 (h.r : Nat)] w2) :
    HB w2 w.heap.size h ∧ Ext w w2 :=
  ⟨s.blk (Blk.new n), n.ext.fresh s.upd (by rintro i rfl; exact Nat.le_refl _)⟩
theorem HB.can {w w1 : World} (n : NewW w (.cells #[.int .i64 0, .int .i64 0, .int .i64 0, .int .u64 0] 24) w1) : CanSet w1 ⟨w.heap.size, 0, none⟩ 4 := (Blk.new n).canSetN 0 4 (by simp)
theorem HB.set {w w' : World} {g : Nat} {a b c d : Value} {h : Hd} (hb : Blk w g 24 [a, b, c, d]) (s : SetW w ⟨g, 0, none⟩ [.int .i64 h.k, .int .i64 h.t, .int .i64 h.l, .int .u64 (h.r : Nat)] w') : HB w' g h := s.blk hb
theorem Ext.toS {w w' : World} {S : Nat → Prop} (x : Ext w w') : Upd S w w' := Upd.mono x fun _ _ _ => not_false
theorem shl_one {n : Nat} (h : n ≤ 63) : shlV .u64 1 (n : Int) = ((2 ^ n : Nat) : Int) := by
  have := Nat.pow_lt_pow_right (a := 2) (by decide) (show n < 64 by omega)
  have e := shl_u64 1 n (by omega)
  rw [show ((1 : Nat) : Int) = 1 from rfl] at e
  rw [e, Nat.one_mul, Nat.mod_eq_of_lt (by omega)]
theorem rb {a b : Bool} (h : a = b) : Ending.returned (.bool a) = .returned (.bool b) := by rw [h]
theorem ri {k : IntKind} {a b : Int} (h : a = b) : Ending.returned (.int k a) = .returned (.int k b) := by rw [h]
theorem may_spec (h : Hd) (w : World) : Calls Try.prog 38 #[hdV h] w fun e w' => e = .returned (.bool (mayT h)) ∧ Ext w w' := by
  refine vc_38 _ _ _ _ _ _ ?_
  simp only [eq_self, false_or, or_false, true_and, and_true, decide_eq_true_eq, decide_eq_false_iff_not, gd_st, gd_sf, exists_eq_left', exists_eq_left, Option.some.injEq, Sl.eta, Nat.reduceLeDiff, Int.reduceLE, Int.reduceLT, Int.reduceEq, Int.reduceNe, Nat.reduceMul, Nat.reduceAdd, Nat.reduceSub, Int.toNat_natCast, beq_iff_eq, bne_iff_ne, beq_eq_false_iff_ne, bne_eq_false_iff_eq, pick_and, pick_or, Bool.and_eq_true, Bool.or_eq_true, Bool.and_eq_false_iff, Bool.or_eq_false_iff, ne_eq, not_false_eq_true, Bool.not_eq_true', Bool.not_eq_false', reduceCtorEq, Nat.le_refl, Nat.zero_mul, Nat.mul_one, Nat.zero_add, Int.reduceToNat, ones, one, add_mk, Decidable.not_not, cond_true, cond_false, true_implies, false_implies, implies_true, Bool.not_true, Bool.not_false]
  intro w1 n1
  have k1 := Blk.new n1
  have x1 := n1.ext
  simp only [k1.cell, List.getElem?_cons_zero, List.getElem?_cons_succ, ex_sl, Value.int.injEq, Value.bool.injEq, Value.pointer.injEq, Value.string.injEq, eq_self, false_or, or_false, true_and, and_true, decide_eq_true_eq, decide_eq_false_iff_not, gd_st, gd_sf, exists_eq_left', exists_eq_left, Option.some.injEq, Sl.eta, Nat.reduceLeDiff, Int.reduceLE, Int.reduceLT, Int.reduceEq, Int.reduceNe, Nat.reduceMul, Nat.reduceAdd, Nat.reduceSub, Int.toNat_natCast, beq_iff_eq, bne_iff_ne, beq_eq_false_iff_ne, bne_eq_false_iff_eq, pick_and, pick_or, Bool.and_eq_true, Bool.or_eq_true, Bool.and_eq_false_iff, Bool.or_eq_false_iff, ne_eq, not_false_eq_true, Bool.not_eq_true', Bool.not_eq_false', reduceCtorEq, Nat.le_refl, Nat.zero_mul, Nat.mul_one, Nat.zero_add, Int.reduceToNat, ones, one, add_mk, Decidable.not_not, cond_true, cond_false, true_implies, false_implies, implies_true, Bool.not_true, Bool.not_false]
  have no : ¬ MayT h → false = mayT h := fun hh => (decide_eq_false hh).symm
  refine ⟨fun h1 => ⟨fun h2 => ⟨fun h3 => ⟨rb (no fun hh => ?_), x1⟩, fun h3 => ⟨fun h4 => ⟨fun h5 => ⟨by omega, fun w2 q2 => ⟨rb ?_, x1.trans q2.ext⟩⟩, fun h5 w2 q2 => ⟨rb (no fun hh => ?_), x1.trans q2.ext⟩⟩, fun h4 => ⟨fun h5 => ⟨fun h6 => ⟨fun h7 => ⟨rb ?_, x1⟩, fun h7 => ⟨rb (no fun hh => ?_), x1⟩⟩, fun h6 => ⟨rb (no fun hh => ?_), x1⟩⟩, fun h5 => ⟨fun h7 => ⟨rb ?_, x1⟩, fun h7 => ⟨rb (no fun hh => ?_), x1⟩⟩⟩⟩⟩, fun h2 => ⟨rb (no fun hh => ?_), x1⟩⟩, fun h1 => ⟨rb (no fun hh => ?_), x1⟩⟩
  all_goals first | (unfold MayT at hh; omega) | skip
  · obtain ⟨n, hn⟩ : ∃ n : Nat, h.l = n := ⟨h.l.toNat, by omega⟩
    rw [hn, shl_one (by omega)]
    unfold mayT
    rw [decide_eq_decide]
    unfold MayT
    rw [hn, Int.toNat_natCast]
    constructor
    · intro hlt
      exact ⟨by omega, by omega, by omega, .inl ⟨h4, by omega, by omega⟩⟩
    · rintro ⟨_, _, _, ⟨_, _, h8⟩ | ⟨h8, _⟩⟩ <;> omega
  all_goals
    unfold mayT
    rw [Bool.eq_iff_iff]
    simp only [beq_iff_eq, decide_eq_true_eq]
    unfold MayT
    constructor
    · intro hlt
      exact ⟨by omega, by omega, by omega, .inr ⟨by omega, by omega, by omega⟩⟩
    · rintro ⟨_, _, _, ⟨_, _, h8⟩ | ⟨h8, _, h9⟩⟩ <;> omega
theorem rmay_spec (h : Hd) (w : World) : Calls Try.prog 39 #[hdV h] w fun e w' => e = .returned (.bool (mayT h)) ∧ Ext w w' := by
  refine vc_39 _ _ _ _ _ _ ?_
  simp only [eq_self, false_or, or_false, true_and, and_true, decide_eq_true_eq, decide_eq_false_iff_not, gd_st, gd_sf, exists_eq_left', exists_eq_left, Option.some.injEq, Sl.eta, Nat.reduceLeDiff, Int.reduceLE, Int.reduceLT, Int.reduceEq, Int.reduceNe, Nat.reduceMul, Nat.reduceAdd, Nat.reduceSub, Int.toNat_natCast, beq_iff_eq, bne_iff_ne, beq_eq_false_iff_ne, bne_eq_false_iff_eq, pick_and, pick_or, Bool.and_eq_true, Bool.or_eq_true, Bool.and_eq_false_iff, Bool.or_eq_false_iff, ne_eq, not_false_eq_true, Bool.not_eq_true', Bool.not_eq_false', reduceCtorEq, Nat.le_refl, Nat.zero_mul, Nat.mul_one, Nat.zero_add, Int.reduceToNat, ones, one, add_mk, Decidable.not_not, cond_true, cond_false, true_implies, false_implies, implies_true, Bool.not_true, Bool.not_false]
  intro w1 n1
  have k1 := Blk.new n1
  have x1 := n1.ext
  simp only [k1.cell, List.getElem?_cons_zero, List.getElem?_cons_succ, ex_sl, Value.int.injEq, Value.bool.injEq, Value.pointer.injEq, Value.string.injEq, eq_self, false_or, or_false, true_and, and_true, decide_eq_true_eq, decide_eq_false_iff_not, gd_st, gd_sf, exists_eq_left', exists_eq_left, Option.some.injEq, Sl.eta, Nat.reduceLeDiff, Int.reduceLE, Int.reduceLT, Int.reduceEq, Int.reduceNe, Nat.reduceMul, Nat.reduceAdd, Nat.reduceSub, Int.toNat_natCast, beq_iff_eq, bne_iff_ne, beq_eq_false_iff_ne, bne_eq_false_iff_eq, pick_and, pick_or, Bool.and_eq_true, Bool.or_eq_true, Bool.and_eq_false_iff, Bool.or_eq_false_iff, ne_eq, not_false_eq_true, Bool.not_eq_true', Bool.not_eq_false', reduceCtorEq, Nat.le_refl, Nat.zero_mul, Nat.mul_one, Nat.zero_add, Int.reduceToNat, ones, one, add_mk, Decidable.not_not, cond_true, cond_false, true_implies, false_implies, implies_true, Bool.not_true, Bool.not_false]
  have no : ¬ MayT h → false = mayT h := fun hh => (decide_eq_false hh).symm
  refine ⟨fun h1 => ⟨fun h2 => ⟨fun h3 => ⟨rb (no fun hh => ?_), x1⟩, fun h3 => ⟨fun h4 => ⟨fun h5 => ⟨?_, rb ?_, x1⟩, fun h5 => ⟨rb (no fun hh => ?_), x1⟩⟩, fun h4 => ⟨fun h5 => ⟨fun h6 => ⟨fun h7 => ⟨rb ?_, x1⟩, fun h7 => ⟨rb (no fun hh => ?_), x1⟩⟩, fun h6 => ⟨rb (no fun hh => ?_), x1⟩⟩, fun h5 => ⟨fun h6 => ⟨fun h7 => ⟨rb ?_, x1⟩, fun h7 => ⟨rb (no fun hh => ?_), x1⟩⟩, fun h6 => ⟨rb (no fun hh => ?_), x1⟩⟩⟩⟩⟩, fun h2 => ⟨rb (no fun hh => ?_), x1⟩⟩, fun h1 => ⟨rb (no fun hh => ?_), x1⟩⟩
  all_goals first | (unfold MayT at hh; omega) | skip
  · rw [wrap_u64 (by omega) (by omega)]; omega
  · obtain ⟨n, hn⟩ : ∃ n : Nat, h.l = n := ⟨h.l.toNat, by omega⟩
    rw [hn, wrap_u64 (by omega) (by omega), shr_nat .u64 h.r n (by show n ≤ 64; omega)]
    unfold mayT
    rw [Bool.eq_iff_iff]
    simp only [beq_iff_eq, decide_eq_true_eq]
    unfold MayT
    rw [hn, Int.toNat_natCast]
    have hp : 0 < 2 ^ n := Nat.pow_pos (by decide)
    have hdiv : ((h.r / 2 ^ n : Nat) : Int) = 0 ↔ h.r < 2 ^ n := by
      rw [← Nat.div_eq_zero_iff_lt hp]; omega
    rw [hdiv]
    constructor
    · intro hlt
      exact ⟨by omega, by omega, by omega, .inl ⟨h4, by omega, by omega⟩⟩
    · rintro ⟨_, _, _, ⟨_, _, h8⟩ | ⟨h8, _⟩⟩ <;> omega
  all_goals
    unfold mayT
    rw [Bool.eq_iff_iff]
    simp only [beq_iff_eq, decide_eq_true_eq]
    unfold MayT
    constructor
    · intro hlt
      exact ⟨by omega, by omega, by omega, .inr ⟨by omega, by omega, by omega⟩⟩
    · rintro ⟨_, _, _, ⟨_, _, h8⟩ | ⟨h8, _, h9⟩⟩ <;> omega
/-- a header's word -/
def packT (h : Hd) : Nat := h.k.toNat + 4 * h.t.toNat + 1024 * h.l.toNat + 2097152 * h.r
def unpT (x : Nat) : Hd := ⟨(x % 4 : Nat), (x / 4 % 256 : Nat), (x / 1024 % 2048 : Nat), x / 2097152⟩
theorem MayT.lt {h : Hd} (m : MayT h) : h.r < 4294967296 := by
  obtain ⟨_, _, h3, ⟨_, h5, h6⟩ | ⟨_, _, h6⟩⟩ := m
  · have : 2 ^ h.l.toNat ≤ 2 ^ 32 := Nat.pow_le_pow_right (by decide) (by omega)
    omega
  · omega
theorem MayT.le {h : Hd} (m : MayT h) : h.l ≤ 1000 := by obtain ⟨_, _, h3, h | h⟩ := m <;> omega
theorem MayT.kind {h : Hd} (m : MayT h) : 1 ≤ h.k ∧ h.k ≤ 3 := by obtain ⟨_, _, h3, h | h⟩ := m <;> omega
theorem pack_lt {h : Hd} (m : MayT h) : packT h < 18014398509481984 := by
  have h1 := m.lt; have h2 := m.le; have h3 := m.kind
  obtain ⟨_, _, _, _⟩ := m
  unfold packT
  omega
theorem unp_pack {h : Hd} (m : MayT h) : unpT (packT h) = h := by
  have h1 := m.lt; have h2 := m.le; have h3 := m.kind
  obtain ⟨_, _, _, _⟩ := m
  obtain ⟨k, t, l, r⟩ := h
  obtain ⟨k, rfl⟩ : ∃ n : Nat, k = n := ⟨k.toNat, by dsimp only at *; omega⟩
  obtain ⟨t, rfl⟩ : ∃ n : Nat, t = n := ⟨t.toNat, by dsimp only at *; omega⟩
  obtain ⟨l, rfl⟩ : ∃ n : Nat, l = n := ⟨l.toNat, by dsimp only at *; omega⟩
  dsimp only at *
  unfold packT unpT
  simp only [Int.toNat_natCast]
  rw [show (k + 4 * t + 1024 * l + 2097152 * r) % 4 = k by omega, show (k + 4 * t + 1024 * l + 2097152 * r) / 4 % 256 = t by omega, show (k + 4 * t + 1024 * l + 2097152 * r) / 1024 % 2048 = l by omega,
    show (k + 4 * t + 1024 * l + 2097152 * r) / 2097152 = r by omega]
theorem pack_unp (x : Nat) : packT (unpT x) = x := by
  unfold packT unpT
  dsimp only
  simp only [Int.toNat_natCast]
  omega
theorem or_add {a b n : Nat} (hb : b < 2 ^ n) : b ||| a * 2 ^ n = b + a * 2 ^ n := by
  rw [Nat.or_comm, Nat.mul_comm a, ← Nat.two_pow_add_eq_or_of_lt hb, Nat.add_comm]
theorem pack_or {h : Hd} (m : MayT h) : bitV .or .u64 (bitV .or .u64 (bitV .or .u64 (IntKind.u64.wrap h.k) (shlV .u64 (IntKind.u64.wrap h.t) 2)) (shlV .u64 (IntKind.u64.wrap h.l) 10)) (shlV .u64 (h.r : Nat) 21) = ((packT h : Nat) : Int) := by
  have h1 := m.lt; have h2 := m.le; have h3 := m.kind
  obtain ⟨_, _, _, _⟩ := m
  obtain ⟨k, t, l, r⟩ := h
  obtain ⟨k, rfl⟩ : ∃ n : Nat, k = n := ⟨k.toNat, by dsimp only at *; omega⟩
  obtain ⟨t, rfl⟩ : ∃ n : Nat, t = n := ⟨t.toNat, by dsimp only at *; omega⟩
  obtain ⟨l, rfl⟩ : ∃ n : Nat, l = n := ⟨l.toNat, by dsimp only at *; omega⟩
  dsimp only at *
  rw [wrap_u64 (n := (k : Int)) (by omega) (by omega), wrap_u64 (n := (t : Int)) (by omega) (by omega), wrap_u64 (n := (l : Int)) (by omega) (by omega)]
  rw [show shlV .u64 (t : Nat) 2 = _ from shl_u64 t 2 (by decide), show shlV .u64 (l : Nat) 10 = _ from shl_u64 l 10 (by decide), show shlV .u64 (r : Nat) 21 = _ from shl_u64 r 21 (by decide)]
  rw [Nat.mod_eq_of_lt (show t * 2 ^ 2 < 18446744073709551616 by omega), Nat.mod_eq_of_lt (show l * 2 ^ 10 < 18446744073709551616 by omega), Nat.mod_eq_of_lt (show r * 2 ^ 21 < 18446744073709551616 by omega)]
  rw [or_u64 _ _ (by omega) (by omega), or_add (n := 2) (by omega), or_u64 _ _ (by omega) (by omega), or_add (n := 10) (by omega), or_u64 _ _ (by omega) (by omega), or_add (n := 21) (by omega)]
  unfold packT
  simp only [Int.toNat_natCast]
  omega
end Go.Proofs.Ytcmmdaginkhomaa.V
