/-
  Headers, packed and unpacked.
  Pack and Unpack, by both.
  An arena, and what stands in it.
  What stands in the document's arena.
  Headers, cells and words of an arena.
  Cells and words of an arena.
  Cells and words of the document's arena; New, Used, Left.
  An arena opened; an object laid.
  Make.
  The document's Make.
  The document's Make.
  Copy.
  After.
  The document's Copy.
-/
import Derived.Test.YtggpomialmpgoaaVcA
import Derived.Test.YtggpomialmpgoaaVcB
import Derived.Test.YtggpomialmpgoaaOwn2
namespace Go.Proofs.Ytggpomialmpgoaa.V
open Go Go.RowKit
set_option linter.unusedVariables false
set_option linter.unusedSimpArgs false
set_option maxRecDepth 100000

structure Hd where
  k : Int
  t : Int
  l : Int
  r : Nat
abbrev hdL (h : Hd) : List Value := [.int .i64 h.k, .int .i64 h.t, .int .i64 h.l, .int .u64 (h.r : Nat)]
abbrev hdV (h : Hd) : Value := .agg #[.int .i64 h.k, .int .i64 h.t, .int .i64 h.l, .int .u64 (h.r : Nat)]
def hd0 : Hd := ⟨0, 0, 0, 0⟩
def MayT (h : Hd) : Prop := 0 ≤ h.t ∧ h.t ≤ 255 ∧ 0 ≤ h.l ∧ ((h.k = 1 ∧ h.l ≤ 32 ∧ h.r < 2 ^ h.l.toNat) ∨ ((h.k = 2 ∨ h.k = 3) ∧ h.l ≤ 1000 ∧ h.r = 0))
instance (h : Hd) : Decidable (MayT h) := inferInstanceAs (Decidable (_ ∧ _ ∧ _ ∧ _))
def mayT (h : Hd) : Bool := decide (MayT h)
/-- a header in a block of its own -/
abbrev HB (w : World) (g : Nat) (h : Hd) : Prop := Blk w g 37 (hdL h)
theorem HB.made {w w1 w2 : World} {h : Hd} (n : NewW w (.cells #[.int .i64 0, .int .i64 0, .int .i64 0, .int .u64 0] 37) w1) (s : SetW w1 ⟨w.heap.size, 0, none⟩ [.int .i64 h.k, .int .i64 h.t, .int .i64 h.l, .int .u64 (h.r : Nat)] w2) :
    HB w2 w.heap.size h ∧ Ext w w2 :=
  ⟨s.blk (Blk.new n), n.ext.fresh s.upd (by rintro i rfl; exact Nat.le_refl _)⟩
theorem HB.can {w w1 : World} (n : NewW w (.cells #[.int .i64 0, .int .i64 0, .int .i64 0, .int .u64 0] 37) w1) : CanSet w1 ⟨w.heap.size, 0, none⟩ 4 := (Blk.new n).canSetN 0 4 (by simp)
theorem HB.set {w w' : World} {g : Nat} {a b c d : Value} {h : Hd} (hb : Blk w g 37 [a, b, c, d]) (s : SetW w ⟨g, 0, none⟩ [.int .i64 h.k, .int .i64 h.t, .int .i64 h.l, .int .u64 (h.r : Nat)] w') : HB w' g h := s.blk hb
theorem Ext.toS {w w' : World} {S : Nat → Prop} (x : Ext w w') : Upd S w w' := Upd.mono x fun _ _ _ => not_false
theorem shl_one {n : Nat} (h : n ≤ 63) : shlV .u64 1 (n : Int) = ((2 ^ n : Nat) : Int) := by
  have := Nat.pow_lt_pow_right (a := 2) (by decide) (show n < 64 by omega)
  have e := shl_u64 1 n (by omega)
  rw [show ((1 : Nat) : Int) = 1 from rfl] at e
  rw [e, Nat.one_mul, Nat.mod_eq_of_lt (by omega)]
theorem rb {a b : Bool} (h : a = b) : Ending.returned (.bool a) = .returned (.bool b) := by rw [h]
theorem ri {k : IntKind} {a b : Int} (h : a = b) : Ending.returned (.int k a) = .returned (.int k b) := by rw [h]
theorem may_spec (h : Hd) (w : World) : Calls Try.prog 49 #[hdV h] w fun e w' => e = .returned (.bool (mayT h)) ∧ Ext w w' := by
  refine vc_49 _ _ _ _ _ _ ?_
  simp only [eq_self, false_or, or_false, true_and, and_true, decide_eq_true_eq, decide_eq_false_iff_not, gd_st, gd_sf, exists_eq_left', exists_eq_left, Option.some.injEq, Sl.eta, Nat.reduceLeDiff, Int.reduceLE, Int.reduceLT, Int.reduceEq, Int.reduceNe, Nat.reduceMul, Nat.reduceAdd, Nat.reduceSub, Int.toNat_natCast, beq_iff_eq, bne_iff_ne, beq_eq_false_iff_ne, bne_eq_false_iff_eq, pick_and, pick_or, Bool.and_eq_true, Bool.or_eq_true, Bool.and_eq_false_iff, Bool.or_eq_false_iff, ne_eq, not_false_eq_true, Bool.not_eq_true', Bool.not_eq_false', reduceCtorEq, Nat.le_refl, Nat.zero_mul, Nat.mul_one, Nat.zero_add, Int.reduceToNat, ones, one, add_mk, Decidable.not_not, cond_true, cond_false, true_implies, false_implies, implies_true, Bool.not_true, Bool.not_false]
  intro w1 n1
  have k1 := Blk.new n1
  have x1 := n1.ext
  simp only [k1.cell, List.getElem?_cons_zero, List.getElem?_cons_succ, ex_sl, Value.int.injEq, Value.bool.injEq, Value.pointer.injEq, Value.string.injEq, eq_self, false_or, or_false, true_and, and_true, decide_eq_true_eq, decide_eq_false_iff_not, gd_st, gd_sf, exists_eq_left', exists_eq_left, Option.some.injEq, Sl.eta, Nat.reduceLeDiff, Int.reduceLE, Int.reduceLT, Int.reduceEq, Int.reduceNe, Nat.reduceMul, Nat.reduceAdd, Nat.reduceSub, Int.toNat_natCast, beq_iff_eq, bne_iff_ne, beq_eq_false_iff_ne, bne_eq_false_iff_eq, pick_and, pick_or, Bool.and_eq_true, Bool.or_eq_true, Bool.and_eq_false_iff, Bool.or_eq_false_iff, ne_eq, not_false_eq_true, Bool.not_eq_true', Bool.not_eq_false', reduceCtorEq, Nat.le_refl, Nat.zero_mul, Nat.mul_one, Nat.zero_add, Int.reduceToNat, ones, one, add_mk, Decidable.not_not, cond_true, cond_false, true_implies, false_implies, implies_true, Bool.not_true, Bool.not_false]
  have no : ¬ MayT h → false = mayT h := fun hh => (decide_eq_false hh).symm
  refine ⟨fun h1 => ⟨fun h2 => ⟨fun h3 => ⟨rb (no fun hh => ?_), x1⟩, fun h3 => ⟨fun h4 => ⟨fun h5 => ⟨by omega, fun w2 q2 => ⟨rb ?_, x1.trans q2.ext⟩⟩, fun h5 w2 q2 => ⟨rb (no fun hh => ?_), x1.trans q2.ext⟩⟩, fun h4 => ⟨fun h5 => ⟨fun h6 => ⟨fun h7 => ⟨rb ?_, x1⟩, fun h7 => ⟨rb (no fun hh => ?_), x1⟩⟩, fun h6 => ⟨rb (no fun hh => ?_), x1⟩⟩, fun h5 => ⟨fun h7 => ⟨rb ?_, x1⟩, fun h7 => ⟨rb (no fun hh => ?_), x1⟩⟩⟩⟩⟩, fun h2 => ⟨rb (no fun hh => ?_), x1⟩⟩, fun h1 => ⟨rb (no fun hh => ?_), x1⟩⟩
  all_goals first | (unfold MayT at hh; omega) | skip
  · obtain ⟨n, hn⟩ : ∃ n : Nat, h.l = n := ⟨h.l.toNat, by omega⟩
    rw [hn, shl_one (by omega)]
    unfold mayT
    rw [decide_eq_decide]
    unfold MayT
    rw [hn, Int.toNat_natCast]
    constructor
    · intro hlt
      exact ⟨by omega, by omega, by omega, .inl ⟨h4, by omega, by omega⟩⟩
    · rintro ⟨_, _, _, ⟨_, _, h8⟩ | ⟨h8, _⟩⟩ <;> omega
  all_goals
    unfold mayT
    rw [Bool.eq_iff_iff]
    simp only [beq_iff_eq, decide_eq_true_eq]
    unfold MayT
    constructor
    · intro hlt
      exact ⟨by omega, by omega, by omega, .inr ⟨by omega, by omega, by omega⟩⟩
    · rintro ⟨_, _, _, ⟨_, _, h8⟩ | ⟨h8, _, h9⟩⟩ <;> omega
theorem rmay_spec (h : Hd) (w : World) : Calls Try.prog 32 #[hdV h] w fun e w' => e = .returned (.bool (mayT h)) ∧ Ext w w' := by
  refine vc_32 _ _ _ _ _ _ ?_
  simp only [eq_self, false_or, or_false, true_and, and_true, decide_eq_true_eq, decide_eq_false_iff_not, gd_st, gd_sf, exists_eq_left', exists_eq_left, Option.some.injEq, Sl.eta, Nat.reduceLeDiff, Int.reduceLE, Int.reduceLT, Int.reduceEq, Int.reduceNe, Nat.reduceMul, Nat.reduceAdd, Nat.reduceSub, Int.toNat_natCast, beq_iff_eq, bne_iff_ne, beq_eq_false_iff_ne, bne_eq_false_iff_eq, pick_and, pick_or, Bool.and_eq_true, Bool.or_eq_true, Bool.and_eq_false_iff, Bool.or_eq_false_iff, ne_eq, not_false_eq_true, Bool.not_eq_true', Bool.not_eq_false', reduceCtorEq, Nat.le_refl, Nat.zero_mul, Nat.mul_one, Nat.zero_add, Int.reduceToNat, ones, one, add_mk, Decidable.not_not, cond_true, cond_false, true_implies, false_implies, implies_true, Bool.not_true, Bool.not_false]
  intro w1 n1
  have k1 := Blk.new n1
  have x1 := n1.ext
  simp only [k1.cell, List.getElem?_cons_zero, List.getElem?_cons_succ, ex_sl, Value.int.injEq, Value.bool.injEq, Value.pointer.injEq, Value.string.injEq, eq_self, false_or, or_false, true_and, and_true, decide_eq_true_eq, decide_eq_false_iff_not, gd_st, gd_sf, exists_eq_left', exists_eq_left, Option.some.injEq, Sl.eta, Nat.reduceLeDiff, Int.reduceLE, Int.reduceLT, Int.reduceEq, Int.reduceNe, Nat.reduceMul, Nat.reduceAdd, Nat.reduceSub, Int.toNat_natCast, beq_iff_eq, bne_iff_ne, beq_eq_false_iff_ne, bne_eq_false_iff_eq, pick_and, pick_or, Bool.and_eq_true, Bool.or_eq_true, Bool.and_eq_false_iff, Bool.or_eq_false_iff, ne_eq, not_false_eq_true, Bool.not_eq_true', Bool.not_eq_false', reduceCtorEq, Nat.le_refl, Nat.zero_mul, Nat.mul_one, Nat.zero_add, Int.reduceToNat, ones, one, add_mk, Decidable.not_not, cond_true, cond_false, true_implies, false_implies, implies_true, Bool.not_true, Bool.not_false]
  have no : ¬ MayT h → false = mayT h := fun hh => (decide_eq_false hh).symm
  refine ⟨fun h1 => ⟨fun h2 => ⟨fun h3 => ⟨rb (no fun hh => ?_), x1⟩, fun h3 => ⟨fun h4 => ⟨fun h5 => ⟨?_, rb ?_, x1⟩, fun h5 => ⟨rb (no fun hh => ?_), x1⟩⟩, fun h4 => ⟨fun h5 => ⟨fun h6 => ⟨fun h7 => ⟨rb ?_, x1⟩, fun h7 => ⟨rb (no fun hh => ?_), x1⟩⟩, fun h6 => ⟨rb (no fun hh => ?_), x1⟩⟩, fun h5 => ⟨fun h6 => ⟨fun h7 => ⟨rb ?_, x1⟩, fun h7 => ⟨rb (no fun hh => ?_), x1⟩⟩, fun h6 => ⟨rb (no fun hh => ?_), x1⟩⟩⟩⟩⟩, fun h2 => ⟨rb (no fun hh => ?_), x1⟩⟩, fun h1 => ⟨rb (no fun hh => ?_), x1⟩⟩
  all_goals first | (unfold MayT at hh; omega) | skip
  · rw [wrap_u64 (by omega) (by omega)]; omega
  · obtain ⟨n, hn⟩ : ∃ n : Nat, h.l = n := ⟨h.l.toNat, by omega⟩
    rw [hn, wrap_u64 (by omega) (by omega), shr_nat .u64 h.r n (by show n ≤ 64; omega)]
    unfold mayT
    rw [Bool.eq_iff_iff]
    simp only [beq_iff_eq, decide_eq_true_eq]
    unfold MayT
    rw [hn, Int.toNat_natCast]
    have hp : 0 < 2 ^ n := Nat.pow_pos (by decide)
    have hdiv : ((h.r / 2 ^ n : Nat) : Int) = 0 ↔ h.r < 2 ^ n := by
      rw [← Nat.div_eq_zero_iff_lt hp]; omega
    rw [hdiv]
    constructor
    · intro hlt
      exact ⟨by omega, by omega, by omega, .inl ⟨h4, by omega, by omega⟩⟩
    · rintro ⟨_, _, _, ⟨_, _, h8⟩ | ⟨h8, _⟩⟩ <;> omega
  all_goals
    unfold mayT
    rw [Bool.eq_iff_iff]
    simp only [beq_iff_eq, decide_eq_true_eq]
    unfold MayT
    constructor
    · intro hlt
      exact ⟨by omega, by omega, by omega, .inr ⟨by omega, by omega, by omega⟩⟩
    · rintro ⟨_, _, _, ⟨_, _, h8⟩ | ⟨h8, _, h9⟩⟩ <;> omega
/-- a header's word -/
def packT (h : Hd) : Nat := h.k.toNat + 4 * h.t.toNat + 1024 * h.l.toNat + 2097152 * h.r
def unpT (x : Nat) : Hd := ⟨(x % 4 : Nat), (x / 4 % 256 : Nat), (x / 1024 % 2048 : Nat), x / 2097152⟩
theorem MayT.lt {h : Hd} (m : MayT h) : h.r < 4294967296 := by
  obtain ⟨_, _, h3, ⟨_, h5, h6⟩ | ⟨_, _, h6⟩⟩ := m
  · have : 2 ^ h.l.toNat ≤ 2 ^ 32 := Nat.pow_le_pow_right (by decide) (by omega)
    omega
  · omega
theorem MayT.le {h : Hd} (m : MayT h) : h.l ≤ 1000 := by obtain ⟨_, _, h3, h | h⟩ := m <;> omega
theorem MayT.kind {h : Hd} (m : MayT h) : 1 ≤ h.k ∧ h.k ≤ 3 := by obtain ⟨_, _, h3, h | h⟩ := m <;> omega
theorem pack_lt {h : Hd} (m : MayT h) : packT h < 18014398509481984 := by
  have h1 := m.lt; have h2 := m.le; have h3 := m.kind
  obtain ⟨_, _, _, _⟩ := m
  unfold packT
  omega
theorem unp_pack {h : Hd} (m : MayT h) : unpT (packT h) = h := by
  have h1 := m.lt; have h2 := m.le; have h3 := m.kind
  obtain ⟨_, _, _, _⟩ := m
  obtain ⟨k, t, l, r⟩ := h
  obtain ⟨k, rfl⟩ : ∃ n : Nat, k = n := ⟨k.toNat, by dsimp only at *; omega⟩
  obtain ⟨t, rfl⟩ : ∃ n : Nat, t = n := ⟨t.toNat, by dsimp only at *; omega⟩
  obtain ⟨l, rfl⟩ : ∃ n : Nat, l = n := ⟨l.toNat, by dsimp only at *; omega⟩
  dsimp only at *
  unfold packT unpT
  simp only [Int.toNat_natCast]
  rw [show (k + 4 * t + 1024 * l + 2097152 * r) % 4 = k by omega, show (k + 4 * t + 1024 * l + 2097152 * r) / 4 % 256 = t by omega, show (k + 4 * t + 1024 * l + 2097152 * r) / 1024 % 2048 = l by omega,
    show (k + 4 * t + 1024 * l + 2097152 * r) / 2097152 = r by omega]
theorem pack_unp (x : Nat) : packT (unpT x) = x := by
  unfold packT unpT
  dsimp only
  simp only [Int.toNat_natCast]
  omega
theorem or_add {a b n : Nat} (hb : b < 2 ^ n) : b ||| a * 2 ^ n = b + a * 2 ^ n := by
  rw [Nat.or_comm, Nat.mul_comm a, ← Nat.two_pow_add_eq_or_of_lt hb, Nat.add_comm]
theorem pack_or {h : Hd} (m : MayT h) : bitV .or .u64 (bitV .or .u64 (bitV .or .u64 (IntKind.u64.wrap h.k) (shlV .u64 (IntKind.u64.wrap h.t) 2)) (shlV .u64 (IntKind.u64.wrap h.l) 10)) (shlV .u64 (h.r : Nat) 21) = ((packT h : Nat) : Int) := by
  have h1 := m.lt; have h2 := m.le; have h3 := m.kind
  obtain ⟨_, _, _, _⟩ := m
  obtain ⟨k, t, l, r⟩ := h
  obtain ⟨k, rfl⟩ : ∃ n : Nat, k = n := ⟨k.toNat, by dsimp only at *; omega⟩
  obtain ⟨t, rfl⟩ : ∃ n : Nat, t = n := ⟨t.toNat, by dsimp only at *; omega⟩
  obtain ⟨l, rfl⟩ : ∃ n : Nat, l = n := ⟨l.toNat, by dsimp only at *; omega⟩
  dsimp only at *
  rw [wrap_u64 (n := (k : Int)) (by omega) (by omega), wrap_u64 (n := (t : Int)) (by omega) (by omega), wrap_u64 (n := (l : Int)) (by omega) (by omega)]
  rw [show shlV .u64 (t : Nat) 2 = _ from shl_u64 t 2 (by decide), show shlV .u64 (l : Nat) 10 = _ from shl_u64 l 10 (by decide), show shlV .u64 (r : Nat) 21 = _ from shl_u64 r 21 (by decide)]
  rw [Nat.mod_eq_of_lt (show t * 2 ^ 2 < 18446744073709551616 by omega), Nat.mod_eq_of_lt (show l * 2 ^ 10 < 18446744073709551616 by omega), Nat.mod_eq_of_lt (show r * 2 ^ 21 < 18446744073709551616 by omega)]
  rw [or_u64 _ _ (by omega) (by omega), or_add (n := 2) (by omega), or_u64 _ _ (by omega) (by omega), or_add (n := 10) (by omega), or_u64 _ _ (by omega) (by omega), or_add (n := 21) (by omega)]
  unfold packT
  simp only [Int.toNat_natCast]
  omega
end Go.Proofs.Ytggpomialmpgoaa.V
namespace Go.Proofs.Ytggpomialmpgoaa.V
open Go Go.RowKit
set_option linter.unusedVariables false
set_option linter.unusedSimpArgs false
set_option maxRecDepth 100000

def packO (h : Hd) : Nat × Bool := if mayT h = true then (packT h, true) else (0, false)
def unpO (x : Nat) : Hd × Bool := if mayT (unpT x) = true then (unpT x, true) else (hd0, false)
theorem unp_r (x : Nat) : (unpT x).r = x / 2097152 := rfl
theorem pack_spec (h : Hd) (w : World) : Calls Try.prog 25 #[hdV h] w fun e w' => e = .returned (.tuple #[.int .u64 ((packO h).1 : Nat), .bool (packO h).2]) ∧ Ext w w' := by
  refine vc_25 _ _ _ _ _ _ ?_
  simp only [eq_self, false_or, or_false, true_and, and_true, decide_eq_true_eq, decide_eq_false_iff_not, gd_st, gd_sf, exists_eq_left', exists_eq_left, Option.some.injEq, Sl.eta, Nat.reduceLeDiff, Int.reduceLE, Int.reduceLT, Int.reduceEq, Int.reduceNe, Nat.reduceMul, Nat.reduceAdd, Nat.reduceSub, Int.toNat_natCast, beq_iff_eq, bne_iff_ne, beq_eq_false_iff_ne, bne_eq_false_iff_eq, pick_and, pick_or, Bool.and_eq_true, Bool.or_eq_true, Bool.and_eq_false_iff, Bool.or_eq_false_iff, ne_eq, not_false_eq_true, Bool.not_eq_true', Bool.not_eq_false', reduceCtorEq, Nat.le_refl, Nat.zero_mul, Nat.mul_one, Nat.zero_add, Int.reduceToNat, ones, one, add_mk, Decidable.not_not, cond_true, cond_false, true_implies, false_implies, implies_true, Bool.not_true, Bool.not_false]
  intro w1 n1
  have k1 := Blk.new n1
  have x1 := n1.ext
  simp only [k1.cell, List.getElem?_cons_zero, List.getElem?_cons_succ, ex_sl, Value.int.injEq, Value.bool.injEq, Value.pointer.injEq, Value.string.injEq, eq_self, false_or, or_false, true_and, and_true, decide_eq_true_eq, decide_eq_false_iff_not, gd_st, gd_sf, exists_eq_left', exists_eq_left, Option.some.injEq, Sl.eta, Nat.reduceLeDiff, Int.reduceLE, Int.reduceLT, Int.reduceEq, Int.reduceNe, Nat.reduceMul, Nat.reduceAdd, Nat.reduceSub, Int.toNat_natCast, beq_iff_eq, bne_iff_ne, beq_eq_false_iff_ne, bne_eq_false_iff_eq, pick_and, pick_or, Bool.and_eq_true, Bool.or_eq_true, Bool.and_eq_false_iff, Bool.or_eq_false_iff, ne_eq, not_false_eq_true, Bool.not_eq_true', Bool.not_eq_false', reduceCtorEq, Nat.le_refl, Nat.zero_mul, Nat.mul_one, Nat.zero_add, Int.reduceToNat, ones, one, add_mk, Decidable.not_not, cond_true, cond_false, true_implies, false_implies, implies_true, Bool.not_true, Bool.not_false]
  refine ⟨_, _, _, _, rfl, ⟨rfl, rfl, rfl, rfl⟩, ⟨(may_spec h w1).mono ?_⟩⟩
  rintro e w2 ⟨rfl, x2⟩
  have k2 := k1.ext x2
  simp only [k2.cell, List.getElem?_cons_zero, List.getElem?_cons_succ, ex_sl, Value.int.injEq, Value.bool.injEq, Value.pointer.injEq, Value.string.injEq, eq_self, false_or, or_false, true_and, and_true, decide_eq_true_eq, decide_eq_false_iff_not, gd_st, gd_sf, exists_eq_left', exists_eq_left, Option.some.injEq, Sl.eta, Nat.reduceLeDiff, Int.reduceLE, Int.reduceLT, Int.reduceEq, Int.reduceNe, Nat.reduceMul, Nat.reduceAdd, Nat.reduceSub, Int.toNat_natCast, beq_iff_eq, bne_iff_ne, beq_eq_false_iff_ne, bne_eq_false_iff_eq, pick_and, pick_or, Bool.and_eq_true, Bool.or_eq_true, Bool.and_eq_false_iff, Bool.or_eq_false_iff, ne_eq, not_false_eq_true, Bool.not_eq_true', Bool.not_eq_false', reduceCtorEq, Nat.le_refl, Nat.zero_mul, Nat.mul_one, Nat.zero_add, Int.reduceToNat, ones, one, add_mk, Decidable.not_not, cond_true, cond_false, true_implies, false_implies, implies_true, Bool.not_true, Bool.not_false]
  refine ⟨_, rfl, fun hb => ⟨?_, x1.trans x2⟩, fun hb => ⟨?_, x1.trans x2⟩⟩
  · unfold packO; rw [if_neg (by rw [hb]; decide)]; rfl
  · unfold packO; rw [if_pos hb, pack_or (of_decide_eq_true hb)]
theorem rpack_spec (h : Hd) (w : World) : Calls Try.prog 65 #[hdV h] w fun e w' => e = .returned (.tuple #[.int .u64 ((packO h).1 : Nat), .bool (packO h).2]) ∧ Ext w w' := by
  refine vc_65 _ _ _ _ _ _ ?_
  simp only [eq_self, false_or, or_false, true_and, and_true, decide_eq_true_eq, decide_eq_false_iff_not, gd_st, gd_sf, exists_eq_left', exists_eq_left, Option.some.injEq, Sl.eta, Nat.reduceLeDiff, Int.reduceLE, Int.reduceLT, Int.reduceEq, Int.reduceNe, Nat.reduceMul, Nat.reduceAdd, Nat.reduceSub, Int.toNat_natCast, beq_iff_eq, bne_iff_ne, beq_eq_false_iff_ne, bne_eq_false_iff_eq, pick_and, pick_or, Bool.and_eq_true, Bool.or_eq_true, Bool.and_eq_false_iff, Bool.or_eq_false_iff, ne_eq, not_false_eq_true, Bool.not_eq_true', Bool.not_eq_false', reduceCtorEq, Nat.le_refl, Nat.zero_mul, Nat.mul_one, Nat.zero_add, Int.reduceToNat, ones, one, add_mk, Decidable.not_not, cond_true, cond_false, true_implies, false_implies, implies_true, Bool.not_true, Bool.not_false]
  intro w1 n1
  have k1 := Blk.new n1
  have x1 := n1.ext
  simp only [k1.cell, List.getElem?_cons_zero, List.getElem?_cons_succ, ex_sl, Value.int.injEq, Value.bool.injEq, Value.pointer.injEq, Value.string.injEq, eq_self, false_or, or_false, true_and, and_true, decide_eq_true_eq, decide_eq_false_iff_not, gd_st, gd_sf, exists_eq_left', exists_eq_left, Option.some.injEq, Sl.eta, Nat.reduceLeDiff, Int.reduceLE, Int.reduceLT, Int.reduceEq, Int.reduceNe, Nat.reduceMul, Nat.reduceAdd, Nat.reduceSub, Int.toNat_natCast, beq_iff_eq, bne_iff_ne, beq_eq_false_iff_ne, bne_eq_false_iff_eq, pick_and, pick_or, Bool.and_eq_true, Bool.or_eq_true, Bool.and_eq_false_iff, Bool.or_eq_false_iff, ne_eq, not_false_eq_true, Bool.not_eq_true', Bool.not_eq_false', reduceCtorEq, Nat.le_refl, Nat.zero_mul, Nat.mul_one, Nat.zero_add, Int.reduceToNat, ones, one, add_mk, Decidable.not_not, cond_true, cond_false, true_implies, false_implies, implies_true, Bool.not_true, Bool.not_false]
  refine ⟨_, _, _, _, rfl, ⟨rfl, rfl, rfl, rfl⟩, ⟨(rmay_spec h w1).mono ?_⟩⟩
  rintro e w2 ⟨rfl, x2⟩
  have k2 := k1.ext x2
  simp only [k2.cell, List.getElem?_cons_zero, List.getElem?_cons_succ, ex_sl, Value.int.injEq, Value.bool.injEq, Value.pointer.injEq, Value.string.injEq, eq_self, false_or, or_false, true_and, and_true, decide_eq_true_eq, decide_eq_false_iff_not, gd_st, gd_sf, exists_eq_left', exists_eq_left, Option.some.injEq, Sl.eta, Nat.reduceLeDiff, Int.reduceLE, Int.reduceLT, Int.reduceEq, Int.reduceNe, Nat.reduceMul, Nat.reduceAdd, Nat.reduceSub, Int.toNat_natCast, beq_iff_eq, bne_iff_ne, beq_eq_false_iff_ne, bne_eq_false_iff_eq, pick_and, pick_or, Bool.and_eq_true, Bool.or_eq_true, Bool.and_eq_false_iff, Bool.or_eq_false_iff, ne_eq, not_false_eq_true, Bool.not_eq_true', Bool.not_eq_false', reduceCtorEq, Nat.le_refl, Nat.zero_mul, Nat.mul_one, Nat.zero_add, Int.reduceToNat, ones, one, add_mk, Decidable.not_not, cond_true, cond_false, true_implies, false_implies, implies_true, Bool.not_true, Bool.not_false]
  refine ⟨_, rfl, fun hb => ⟨?_, x1.trans x2⟩, fun hb => ⟨?_, x1.trans x2⟩⟩
  · unfold packO; rw [if_neg (by rw [hb]; decide)]; rfl
  · have m : MayT h := of_decide_eq_true hb
    have h1 := m.lt; have h2 := m.le; have h3 := m.kind
    obtain ⟨_, _, _, _⟩ := m
    have e : IntKind.u64.wrap (IntKind.u64.wrap (IntKind.u64.wrap (IntKind.u64.wrap h.k + IntKind.u64.wrap (4 * IntKind.u64.wrap h.t)) + IntKind.u64.wrap (1024 * IntKind.u64.wrap h.l)) + IntKind.u64.wrap (2097152 * (h.r : Int))) = ((packT h : Nat) : Int) := by
      unfold packT
      simp only [wrap_u64']
      omega
    unfold packO; rw [if_pos hb, e]
/-- an unpacked word's parts, by shifts -/
theorem unp_bits {x : Nat} (hx : x < 18446744073709551616) :
    IntKind.i64.wrap (bitV .and .u64 (x : Int) 3) = (unpT x).k ∧ IntKind.i64.wrap (bitV .and .u64 (shrV .u64 (x : Int) 2) 255) = (unpT x).t ∧
      IntKind.i64.wrap (bitV .and .u64 (shrV .u64 (x : Int) 10) 2047) = (unpT x).l ∧ shrV .u64 (x : Int) 21 = ((unpT x).r : Int) := by
  rw [show shrV .u64 (x : Int) 2 = _ from shr_nat .u64 x 2 (by decide), show shrV .u64 (x : Int) 10 = _ from shr_nat .u64 x 10 (by decide), show shrV .u64 (x : Int) 21 = _ from shr_nat .u64 x 21 (by decide)]
  rw [show (3 : Int) = ((3 : Nat) : Int) from rfl, show (255 : Int) = ((255 : Nat) : Int) from rfl, show (2047 : Int) = ((2047 : Nat) : Int) from rfl]
  rw [and_u64 _ _ hx (by decide), and_u64 _ _ (by omega) (by decide), and_u64 _ _ (by omega) (by decide)]
  rw [show x &&& 3 = x % 4 from Nat.and_two_pow_sub_one_eq_mod x 2, show x / 2 ^ 2 &&& 255 = x / 2 ^ 2 % 256 from Nat.and_two_pow_sub_one_eq_mod _ 8, show x / 2 ^ 10 &&& 2047 = x / 2 ^ 10 % 2048 from Nat.and_two_pow_sub_one_eq_mod _ 11]
  rw [wrap_i64 (by omega) (by omega), wrap_i64 (by omega) (by omega), wrap_i64 (by omega) (by omega)]
  exact ⟨rfl, rfl, rfl, rfl⟩
theorem unp_div {x : Nat} (hx : x < 18446744073709551616) :
    IntKind.i64.wrap ((x : Int).tmod 4) = (unpT x).k ∧ IntKind.i64.wrap ((IntKind.u64.wrap ((x : Int).tdiv 4)).tmod 256) = (unpT x).t ∧
      IntKind.i64.wrap ((IntKind.u64.wrap ((x : Int).tdiv 1024)).tmod 2048) = (unpT x).l ∧ IntKind.u64.wrap ((x : Int).tdiv 2097152) = ((unpT x).r : Int) := by
  rw [Int.tmod_eq_emod_of_nonneg (by omega), Int.tdiv_eq_ediv_of_nonneg (by omega), Int.tdiv_eq_ediv_of_nonneg (by omega), Int.tdiv_eq_ediv_of_nonneg (by omega)]
  rw [wrap_u64 (n := (x : Int) / 4) (by omega) (by omega), wrap_u64 (n := (x : Int) / 1024) (by omega) (by omega), wrap_u64 (n := (x : Int) / 2097152) (by omega) (by omega)]
  rw [Int.tmod_eq_emod_of_nonneg (by omega), Int.tmod_eq_emod_of_nonneg (by omega)]
  rw [wrap_i64 (by omega) (by omega), wrap_i64 (by omega) (by omega), wrap_i64 (by omega) (by omega)]
  exact ⟨rfl, rfl, rfl, rfl⟩
theorem unpack_spec {x : Nat} (hx : x < 18446744073709551616) (w : World) : Calls Try.prog 62 #[.int .u64 x] w fun e w' => e = .returned (.tuple #[hdV (unpO x).1, .bool (unpO x).2]) ∧ Ext w w' := by
  refine vc_62 _ _ _ ?_
  obtain ⟨e1, e2, e3, e4⟩ := unp_bits hx
  simp only [eq_self, false_or, or_false, true_and, and_true, decide_eq_true_eq, decide_eq_false_iff_not, gd_st, gd_sf, exists_eq_left', exists_eq_left, Option.some.injEq, Sl.eta, Nat.reduceLeDiff, Int.reduceLE, Int.reduceLT, Int.reduceEq, Int.reduceNe, Nat.reduceMul, Nat.reduceAdd, Nat.reduceSub, Int.toNat_natCast, beq_iff_eq, bne_iff_ne, beq_eq_false_iff_ne, bne_eq_false_iff_eq, pick_and, pick_or, Bool.and_eq_true, Bool.or_eq_true, Bool.and_eq_false_iff, Bool.or_eq_false_iff, ne_eq, not_false_eq_true, Bool.not_eq_true', Bool.not_eq_false', reduceCtorEq, Nat.le_refl, Nat.zero_mul, Nat.mul_one, Nat.zero_add, Int.reduceToNat, ones, one, add_mk, Decidable.not_not, cond_true, cond_false, true_implies, false_implies, implies_true, Bool.not_true, Bool.not_false]
  rw [e1, e2, e3, e4]
  intro w1 n1
  refine ⟨by simp [len', wr, splice, rep], by simp [len', wr, splice, rep], by simp [len', wr, splice, rep], fun w2 n2 => ⟨by simp [len', wr, splice, rep], HB.can n2, fun w3 s3 => ?_⟩⟩
  have k1 := Blk.new n1
  obtain ⟨b3, x3⟩ := HB.made n2 s3
  refine ⟨_, _, _, _, rfl, ⟨b3.cell 0, b3.cell 1, b3.cell 2, b3.cell 3⟩, ⟨(may_spec (unpT x) w3).mono ?_⟩⟩
  rintro e w4 ⟨rfl, x4⟩
  have k4 := ((k1.ext x3).ext x4)
  have b4 := b3.ext x4
  have x04 := (n1.ext.trans x3).trans x4
  refine ⟨_, rfl, fun hb => ⟨k4.canSetN 0 4 (by simp), fun w5 s5 => ?_⟩, fun hb => ⟨_, _, _, _, rfl, ⟨b4.cell 0, b4.cell 1, b4.cell 2, b4.cell 3⟩, rfl, k4.canSetN 0 4 (by simp), fun w5 s5 => ?_⟩⟩
  · have b5 : HB w5 w.heap.size hd0 := HB.set k4 s5
    refine ⟨_, _, _, _, rfl, ⟨b5.cell 0, b5.cell 1, b5.cell 2, b5.cell 3⟩, ?_, x04.fresh s5.upd (by rintro i rfl; exact Nat.le_refl _)⟩
    unfold unpO; rw [if_neg (by rw [hb]; decide)]
  · have b5 : HB w5 w.heap.size (unpT x) := HB.set k4 s5
    refine ⟨_, _, _, _, rfl, ⟨b5.cell 0, b5.cell 1, b5.cell 2, b5.cell 3⟩, ?_, x04.fresh s5.upd (by rintro i rfl; exact Nat.le_refl _)⟩
    unfold unpO; rw [if_pos hb]
theorem runpack_spec {x : Nat} (hx : x < 18446744073709551616) (w : World) : Calls Try.prog 64 #[.int .u64 x] w fun e w' => e = .returned (.tuple #[hdV (unpO x).1, .bool (unpO x).2]) ∧ Ext w w' := by
  refine vc_64 _ _ _ ?_
  obtain ⟨e1, e2, e3, e4⟩ := unp_div hx
  simp only [eq_self, false_or, or_false, true_and, and_true, decide_eq_true_eq, decide_eq_false_iff_not, gd_st, gd_sf, exists_eq_left', exists_eq_left, Option.some.injEq, Sl.eta, Nat.reduceLeDiff, Int.reduceLE, Int.reduceLT, Int.reduceEq, Int.reduceNe, Nat.reduceMul, Nat.reduceAdd, Nat.reduceSub, Int.toNat_natCast, beq_iff_eq, bne_iff_ne, beq_eq_false_iff_ne, bne_eq_false_iff_eq, pick_and, pick_or, Bool.and_eq_true, Bool.or_eq_true, Bool.and_eq_false_iff, Bool.or_eq_false_iff, ne_eq, not_false_eq_true, Bool.not_eq_true', Bool.not_eq_false', reduceCtorEq, Nat.le_refl, Nat.zero_mul, Nat.mul_one, Nat.zero_add, Int.reduceToNat, ones, one, add_mk, Decidable.not_not, cond_true, cond_false, true_implies, false_implies, implies_true, Bool.not_true, Bool.not_false]
  rw [e1, e2, e3, e4]
  intro w1 n1
  refine ⟨by simp [len', wr, splice, rep], by simp [len', wr, splice, rep], by simp [len', wr, splice, rep], fun w2 n2 => ⟨by simp [len', wr, splice, rep], HB.can n2, fun w3 s3 => ?_⟩⟩
  have k1 := Blk.new n1
  obtain ⟨b3, x3⟩ := HB.made n2 s3
  refine ⟨_, _, _, _, rfl, ⟨b3.cell 0, b3.cell 1, b3.cell 2, b3.cell 3⟩, ⟨(rmay_spec (unpT x) w3).mono ?_⟩⟩
  rintro e w4 ⟨rfl, x4⟩
  have k4 := ((k1.ext x3).ext x4)
  have b4 := b3.ext x4
  have x04 := (n1.ext.trans x3).trans x4
  refine ⟨_, rfl, fun hb => ⟨k4.canSetN 0 4 (by simp), fun w5 s5 => ?_⟩, fun hb => ⟨_, _, _, _, rfl, ⟨b4.cell 0, b4.cell 1, b4.cell 2, b4.cell 3⟩, rfl, k4.canSetN 0 4 (by simp), fun w5 s5 => ?_⟩⟩
  · have b5 : HB w5 w.heap.size hd0 := HB.set k4 s5
    refine ⟨_, _, _, _, rfl, ⟨b5.cell 0, b5.cell 1, b5.cell 2, b5.cell 3⟩, ?_, x04.fresh s5.upd (by rintro i rfl; exact Nat.le_refl _)⟩
    unfold unpO; rw [if_neg (by rw [hb]; decide)]
  · have b5 : HB w5 w.heap.size (unpT x) := HB.set k4 s5
    refine ⟨_, _, _, _, rfl, ⟨b5.cell 0, b5.cell 1, b5.cell 2, b5.cell 3⟩, ?_, x04.fresh s5.upd (by rintro i rfl; exact Nat.le_refl _)⟩
    unfold unpO; rw [if_pos hb]
end Go.Proofs.Ytggpomialmpgoaa.V
namespace Go.Proofs.Ytggpomialmpgoaa.V
open Go Go.RowKit
set_option linter.unusedVariables false
set_option linter.unusedSimpArgs false
set_option maxRecDepth 100000

structure Sp where
  f : Nat
  e : Nat
structure Ar where
  n : Nat
  ws : List Nat
  use : Sp
  nxt : Sp
  opn : Bool
structure Ar.Ok (A : Ar) : Prop where
  n : A.n ≤ 65536
  len : A.ws.length = 2 * A.n
  lt : ∀ x ∈ A.ws, x < 18446744073709551616
  use : A.use.f = 0 ∨ A.use.f = A.n
  use1 : A.use.f ≤ A.use.e ∧ A.use.e ≤ A.use.f + A.n
  nxt : A.opn = true → A.nxt.f = A.n - A.use.f ∧ A.nxt.f ≤ A.nxt.e ∧ A.nxt.e ≤ A.nxt.f + A.n
  nxt0 : A.opn = false → A.nxt = ⟨0, 0⟩
/-- an arena in memory: its struct in block g, its words in block b -/
structure ArW (t : Nat) (w : World) (b g : Nat) (A : Ar) : Prop where
  ok : A.Ok
  hd : Blk w g t [.int .i64 (A.n : Nat), .slice (some ⟨b, 0, none⟩) A.ws.length A.ws.length, .int .i64 (A.use.f : Nat), .int .i64 (A.use.e : Nat), .int .i64 (A.nxt.f : Nat), .int .i64 (A.nxt.e : Nat), .bool A.opn]
  ws : Blk w b 35 (uv A.ws)
theorem Blk.words {w : World} {b T : Nat} {l : List Nat} (h : Blk w b T (uv l)) : Rd w 1 ⟨some ⟨b, 0, none⟩, l.length, l.length⟩ (uv l) := by
  have := h.rd (z := 1) (o := 0) (n := l.length) (c := l.length) (by simp)
  simp only [Nat.mul_one, List.drop_zero] at this
  rw [List.take_of_length_le (by simp)] at this
  exact this
/-- the header of what stands at a reference in a space -/
def stT (A : Ar) (s : Sp) (r : Nat) : Option Hd :=
  if s.f < r ∧ r ≤ s.e then
    match A.ws[r - 1]? with
    | some x => if mayT (unpT x) = true ∧ r - 1 + (unpT x).l.toNat + 2 ≤ s.e ∧ A.ws[r - 1 + (unpT x).l.toNat + 1]? = some (18446744073709551615 - x) then some (unpT x) else none
    | none => none
  else none
abbrev hoV (o : Option Hd) : Value := .tuple #[hdV (o.getD hd0), .bool o.isSome]
section
variable {t : Nat} {w w' : World} {b g : Nat} {A : Ar} {S : Nat → Prop}
theorem ArW.upd (h : ArW t w b g A) (u : Upd S w w') (h1 : ¬ S g) (h2 : ¬ S b) : ArW t w' b g A := ⟨h.ok, h.hd.upd u h1, h.ws.upd u h2⟩
theorem ArW.ext (h : ArW t w b g A) (u : Ext w w') : ArW t w' b g A := h.upd u not_false not_false
end
theorem xor_ones (x : Nat) (hx : x < 18446744073709551616) : x ^^^ 18446744073709551615 = 18446744073709551615 - x := by
  have := Nat.sub_add_cancel (show x ≤ 18446744073709551615 by omega)
  have h1 : 18446744073709551615 - x = 2 ^ 64 - 1 - x := rfl
  apply Nat.eq_of_testBit_eq
  intro i
  rw [h1, Nat.testBit_xor, show (18446744073709551615 : Nat) = 2 ^ 64 - 1 from rfl, Nat.testBit_two_pow_sub_one, show 2 ^ 64 - 1 - x = 2 ^ 64 - (x + 1) by omega, Nat.testBit_two_pow_sub_succ (by omega)]
  by_cases hi : i < 64
  · simp [hi]
  · have : x.testBit i = false := Nat.testBit_lt_two_pow (Nat.lt_of_lt_of_le hx (Nat.pow_le_pow_right (n := 2) (by decide) (by omega : 64 ≤ i)))
    simp [hi, this]
theorem not_u64 {x : Nat} (hx : x < 18446744073709551616) : bitV .xor .u64 (if IntKind.u64.signed = true then -1 else IntKind.u64.max) (x : Int) = ((18446744073709551615 - x : Nat) : Int) := by
  rw [show (if IntKind.u64.signed = true then (-1 : Int) else IntKind.u64.max) = ((18446744073709551615 : Nat) : Int) from rfl, xor_u64 _ _ (by decide) hx, Nat.xor_comm, xor_ones x hx]
theorem rt {v v' : Value} (h : v = v') : Ending.returned v = .returned v' := by rw [h]
theorem in_spec {w : World} {b g : Nat} {A : Ar} (h : ArW 91 w b g A) {s : Sp} (hf0 : s.f ≤ 2 * A.n) (hs : s.e ≤ 2 * A.n) {r : Nat} (hr : r < 18446744073709551616) :
    Calls Try.prog 50 #[.pointer (some ⟨g, 0, none⟩), .agg #[.int .i64 (s.f : Nat), .int .i64 (s.e : Nat)], .int .u64 (r : Nat)] w fun e w' => e = .returned (hoV (stT A s r)) ∧ Ext w w' := by
  refine vc_50 _ _ _ _ _ _ ?_
  obtain ⟨ok, hb, ho⟩ := h
  let sl : Sl := ⟨some ⟨b, 0, none⟩, A.ws.length, A.ws.length⟩
  have hn := ok.n
  have hlen := ok.len
  have hsl : A.ws.length = sl.n := rfl
  simp only [eq_self, false_or, or_false, true_and, and_true, decide_eq_true_eq, decide_eq_false_iff_not, gd_st, gd_sf, exists_eq_left', exists_eq_left, Option.some.injEq, Sl.eta, Nat.reduceLeDiff, Int.reduceLE, Int.reduceLT, Int.reduceEq, Int.reduceNe, Nat.reduceMul, Nat.reduceAdd, Nat.reduceSub, Int.toNat_natCast, beq_iff_eq, bne_iff_ne, beq_eq_false_iff_ne, bne_eq_false_iff_eq, pick_and, pick_or, Bool.and_eq_true, Bool.or_eq_true, Bool.and_eq_false_iff, Bool.or_eq_false_iff, ne_eq, not_false_eq_true, Bool.not_eq_true', Bool.not_eq_false', reduceCtorEq, Nat.le_refl, Nat.zero_mul, Nat.mul_one, Nat.zero_add, Int.reduceToNat, ones, one, add_mk, Decidable.not_not, cond_true, cond_false, true_implies, false_implies, implies_true, Bool.not_true, Bool.not_false]
  intro w1 n1 w2 n2
  have k2 := (Blk.new n1).ext n2.ext
  have h2 := Blk.new n2
  have x02 : Ext w w2 := n1.ext.trans n2.ext
  have b2 := hb.ext x02
  have o2 := ho.ext x02
  have z1 := n1.ext.size
  have non : stT A s r = none → ∀ w', Blk w' w1.heap.size 37 (hdL hd0) → Ext w w' → CanSet w' ⟨w1.heap.size, 0, none⟩ 4 ∧ ∀ w'', SetW w' ⟨w1.heap.size, 0, none⟩ [.int .i64 0, .int .i64 0, .int .i64 0, .int .u64 0] w'' →
      ∃ n n_1 n_2 n_3, len' [Value.int .i64 n, .int .i64 n_1, .int .i64 n_2, .int .u64 n_3] = 4 ∧ (w''.cell? ⟨w1.heap.size, 0, none⟩ = some (.int .i64 n) ∧ w''.cell? ⟨w1.heap.size, 1, none⟩ = some (.int .i64 n_1) ∧ w''.cell? ⟨w1.heap.size, 2, none⟩ = some (.int .i64 n_2) ∧ w''.cell? ⟨w1.heap.size, 3, none⟩ = some (.int .u64 n_3)) ∧
        Ending.returned (.tuple #[.agg #[.int .i64 n, .int .i64 n_1, .int .i64 n_2, .int .u64 n_3], .bool false]) = .returned (hoV (stT A s r)) ∧ Ext w w'' := by
    intro hno w' hb' x'
    refine ⟨hb'.canSetN 0 4 (by simp), fun w'' s'' => ?_⟩
    have b5 : HB w'' w1.heap.size hd0 := HB.set hb' s''
    refine ⟨_, _, _, _, rfl, ⟨b5.cell 0, b5.cell 1, b5.cell 2, b5.cell 3⟩, by rw [hno]; rfl, x'.fresh s''.upd (by rintro i rfl; exact n1.ext.size)⟩
  simp only [k2.cell, List.getElem?_cons_zero, List.getElem?_cons_succ, ex_sl, Value.int.injEq, Value.bool.injEq, Value.pointer.injEq, Value.string.injEq, eq_self, false_or, or_false, true_and, and_true, decide_eq_true_eq, decide_eq_false_iff_not, gd_st, gd_sf, exists_eq_left', exists_eq_left, Option.some.injEq, Sl.eta, Nat.reduceLeDiff, Int.reduceLE, Int.reduceLT, Int.reduceEq, Int.reduceNe, Nat.reduceMul, Nat.reduceAdd, Nat.reduceSub, Int.toNat_natCast, beq_iff_eq, bne_iff_ne, beq_eq_false_iff_ne, bne_eq_false_iff_eq, pick_and, pick_or, Bool.and_eq_true, Bool.or_eq_true, Bool.and_eq_false_iff, Bool.or_eq_false_iff, ne_eq, not_false_eq_true, Bool.not_eq_true', Bool.not_eq_false', reduceCtorEq, Nat.le_refl, Nat.zero_mul, Nat.mul_one, Nat.zero_add, Int.reduceToNat, ones, one, add_mk, Decidable.not_not, cond_true, cond_false, true_implies, false_implies, implies_true, Bool.not_true, Bool.not_false]
  rw [wrap_u64 (n := (s.e : Int)) (by omega) (by omega), wrap_u64 (n := (s.f : Int)) (by omega) (by omega)]
  refine ⟨fun h1 => ⟨fun h3 => non (by unfold stT; rw [if_neg (by omega)]) w2 h2 x02, fun h3 => ?_⟩, fun h1 => non (by unfold stT; rw [if_neg (by omega)]) w2 h2 x02⟩
  have er : IntKind.i64.wrap (IntKind.u64.wrap ((r : Int) - 1)) = ((r - 1 : Nat) : Int) := by
    rw [wrap_u64 (by omega) (by omega), wrap_i64 (by omega) (by omega)]; omega
  rw [er]
  obtain ⟨p, x, hp, hx, hcx⟩ := o2.words.word (r - 1) (by show r - 1 < A.ws.length; omega)
  rw [Nat.mul_one] at hcx
  have hxl := ok.lt x (List.mem_of_getElem? hx)
  refine ⟨sl, b2.cell 1, by omega, by show ((r - 1 : Nat) : Int) < ((A.ws.length : Nat) : Int); omega, p, hp, x, hcx, ⟨(unpack_spec hxl w2).mono ?_⟩⟩
  rintro e w3 ⟨rfl, x3⟩
  have x03 := x02.trans x3
  refine ⟨_, _, _, _, _, rfl, fun w4 n4 => ⟨rfl, HB.can n4, fun w5 s5 => ?_⟩⟩
  obtain ⟨b5, y5⟩ := HB.made n4 s5
  have x35 := x3.trans y5
  have x05 := x02.trans x35
  have h5 := h2.ext x35
  have k5 := k2.ext x35
  have f5 := hb.ext x05
  have o5 := ho.ext x05
  have hst : r ≤ s.e → s.f < r → stT A s r = if mayT (unpT x) = true ∧ r - 1 + (unpT x).l.toNat + 2 ≤ s.e ∧ A.ws[r - 1 + (unpT x).l.toNat + 1]? = some (18446744073709551615 - x) then some (unpT x) else none := fun h6 h7 => by
    unfold stT; rw [if_pos ⟨h7, h6⟩, hx]
  by_cases hm : mayT (unpT x) = true
  rotate_left
  · have e2 : (unpO x).2 = false := by unfold unpO; rw [if_neg hm]
    rw [e2]
    refine ⟨fun h => (by cases h), fun _ w6 q6 => non ?_ w6 (h5.ext q6.ext) (x05.trans q6.ext)⟩
    rw [hst (by omega) (by omega), if_neg fun hh => hm hh.1]
  have e2 : (unpO x).2 = true := by unfold unpO; rw [if_pos hm]
  have e1 : (unpO x).1 = unpT x := by unfold unpO; rw [if_pos hm]
  rw [e1] at b5
  rw [e2]
  have m : MayT (unpT x) := of_decide_eq_true hm
  have ml := m.le
  have m0 : 0 ≤ (unpT x).l := m.2.2.1
  obtain ⟨len, hlen'⟩ : ∃ n : Nat, (unpT x).l = n := ⟨(unpT x).l.toNat, by omega⟩
  rw [hlen', Int.toNat_natCast] at hst
  refine ⟨fun _ => ⟨_, b5.cell 2, _, k5.cell 1, ?_⟩, fun h => (by cases h)⟩
  have el : IntKind.i64.wrap (IntKind.i64.wrap (((r - 1 : Nat) : Int) + (unpT x).l) + 2) = ((r - 1 + len + 2 : Nat) : Int) := by
    rw [hlen', wrap_i64 (n := ((r - 1 : Nat) : Int) + (len : Int)) (by omega) (by omega), wrap_i64 (by omega) (by omega)]; omega
  have el1 : IntKind.i64.wrap (IntKind.i64.wrap (((r - 1 : Nat) : Int) + (unpT x).l) + 1) = ((r - 1 + len + 1 : Nat) : Int) := by
    rw [hlen', wrap_i64 (n := ((r - 1 : Nat) : Int) + (len : Int)) (by omega) (by omega), wrap_i64 (by omega) (by omega)]; omega
  rw [el]
  refine ⟨fun h6 => ?_, fun h6 w6 q6 => non (by rw [hst (by omega) (by omega), if_neg (by omega)]) w6 (h5.ext q6.ext) (x05.trans q6.ext)⟩
  obtain ⟨p1, y, hp1, hy, hcy⟩ := o5.words.word (r - 1 + len + 1) (by show r - 1 + len + 1 < A.ws.length; omega)
  obtain ⟨p2, x', hp2, hx', hcx'⟩ := o5.words.word (r - 1) (by show r - 1 < A.ws.length; omega)
  rw [Nat.mul_one] at hcy hcx'
  rw [hx] at hx'; injection hx' with hx'; subst hx'
  refine ⟨sl, f5.cell 1, _, b5.cell 2, ?_⟩
  rw [el1]
  refine ⟨by omega, by show ((r - 1 + len + 1 : Nat) : Int) < ((A.ws.length : Nat) : Int); omega, p1, hp1, y, hcy, sl, f5.cell 1, by omega, by show ((r - 1 : Nat) : Int) < ((A.ws.length : Nat) : Int); omega, p2, hp2, x, hcx', fun w6 q6 => ?_⟩
  have x06 := x05.trans q6.ext
  have h6b := h5.ext q6.ext
  have b6 := b5.ext q6.ext
  rw [not_u64 hxl]
  refine ⟨fun hne => non ?_ w6 h6b x06, fun heq => ?_⟩
  · rw [hst (by omega) (by omega), if_neg ?_]
    rintro ⟨_, _, hh⟩
    rw [hy] at hh; injection hh with hh
    exact hne (by rw [hh])
  · refine ⟨_, _, _, _, rfl, ⟨b6.cell 0, b6.cell 1, b6.cell 2, b6.cell 3⟩, rfl, h6b.canSetN 0 4 (by simp), fun w7 s7 => ?_⟩
    have b7 : HB w7 w1.heap.size (unpT x) := HB.set h6b s7
    refine ⟨_, _, _, _, rfl, ⟨b7.cell 0, b7.cell 1, b7.cell 2, b7.cell 3⟩, rt ?_, x06.fresh s7.upd (by rintro i rfl; exact n1.ext.size)⟩
    rw [hst (by omega) (by omega), if_pos ⟨hm, by omega, by rw [hy]; congr 1; omega⟩]
    rfl
end Go.Proofs.Ytggpomialmpgoaa.V
namespace Go.Proofs.Ytggpomialmpgoaa.V
open Go Go.RowKit
set_option linter.unusedVariables false
set_option linter.unusedSimpArgs false
set_option maxRecDepth 100000

theorem rin_spec {w : World} {b g : Nat} {A : Ar} (h : ArW 71 w b g A) {s : Sp} (hf0 : s.f ≤ 2 * A.n) (hs : s.e ≤ 2 * A.n) {r : Nat} (hr : r < 18446744073709551616) :
    Calls Try.prog 59 #[.pointer (some ⟨g, 0, none⟩), .agg #[.int .i64 (s.f : Nat), .int .i64 (s.e : Nat)], .int .u64 (r : Nat)] w fun e w' => e = .returned (hoV (stT A s r)) ∧ Ext w w' := by
  refine vc_59 _ _ _ _ _ _ ?_
  obtain ⟨ok, hb, ho⟩ := h
  let sl : Sl := ⟨some ⟨b, 0, none⟩, A.ws.length, A.ws.length⟩
  have hn := ok.n
  have hlen := ok.len
  have hsl : A.ws.length = sl.n := rfl
  simp only [eq_self, false_or, or_false, true_and, and_true, decide_eq_true_eq, decide_eq_false_iff_not, gd_st, gd_sf, exists_eq_left', exists_eq_left, Option.some.injEq, Sl.eta, Nat.reduceLeDiff, Int.reduceLE, Int.reduceLT, Int.reduceEq, Int.reduceNe, Nat.reduceMul, Nat.reduceAdd, Nat.reduceSub, Int.toNat_natCast, beq_iff_eq, bne_iff_ne, beq_eq_false_iff_ne, bne_eq_false_iff_eq, pick_and, pick_or, Bool.and_eq_true, Bool.or_eq_true, Bool.and_eq_false_iff, Bool.or_eq_false_iff, ne_eq, not_false_eq_true, Bool.not_eq_true', Bool.not_eq_false', reduceCtorEq, Nat.le_refl, Nat.zero_mul, Nat.mul_one, Nat.zero_add, Int.reduceToNat, ones, one, add_mk, Decidable.not_not, cond_true, cond_false, true_implies, false_implies, implies_true, Bool.not_true, Bool.not_false]
  intro w1 n1 w2 n2
  have k2 := (Blk.new n1).ext n2.ext
  have h2 := Blk.new n2
  have x02 : Ext w w2 := n1.ext.trans n2.ext
  have b2 := hb.ext x02
  have o2 := ho.ext x02
  have z1 := n1.ext.size
  have non : stT A s r = none → ∀ w', Blk w' w1.heap.size 37 (hdL hd0) → Ext w w' → CanSet w' ⟨w1.heap.size, 0, none⟩ 4 ∧ ∀ w'', SetW w' ⟨w1.heap.size, 0, none⟩ [.int .i64 0, .int .i64 0, .int .i64 0, .int .u64 0] w'' →
      ∃ n n_1 n_2 n_3, len' [Value.int .i64 n, .int .i64 n_1, .int .i64 n_2, .int .u64 n_3] = 4 ∧ (w''.cell? ⟨w1.heap.size, 0, none⟩ = some (.int .i64 n) ∧ w''.cell? ⟨w1.heap.size, 1, none⟩ = some (.int .i64 n_1) ∧ w''.cell? ⟨w1.heap.size, 2, none⟩ = some (.int .i64 n_2) ∧ w''.cell? ⟨w1.heap.size, 3, none⟩ = some (.int .u64 n_3)) ∧
        Ending.returned (.tuple #[.agg #[.int .i64 n, .int .i64 n_1, .int .i64 n_2, .int .u64 n_3], .bool false]) = .returned (hoV (stT A s r)) ∧ Ext w w'' := by
    intro hno w' hb' x'
    refine ⟨hb'.canSetN 0 4 (by simp), fun w'' s'' => ?_⟩
    have b5 : HB w'' w1.heap.size hd0 := HB.set hb' s''
    refine ⟨_, _, _, _, rfl, ⟨b5.cell 0, b5.cell 1, b5.cell 2, b5.cell 3⟩, by rw [hno]; rfl, x'.fresh s''.upd (by rintro i rfl; exact n1.ext.size)⟩
  simp only [k2.cell, List.getElem?_cons_zero, List.getElem?_cons_succ, ex_sl, Value.int.injEq, Value.bool.injEq, Value.pointer.injEq, Value.string.injEq, eq_self, false_or, or_false, true_and, and_true, decide_eq_true_eq, decide_eq_false_iff_not, gd_st, gd_sf, exists_eq_left', exists_eq_left, Option.some.injEq, Sl.eta, Nat.reduceLeDiff, Int.reduceLE, Int.reduceLT, Int.reduceEq, Int.reduceNe, Nat.reduceMul, Nat.reduceAdd, Nat.reduceSub, Int.toNat_natCast, beq_iff_eq, bne_iff_ne, beq_eq_false_iff_ne, bne_eq_false_iff_eq, pick_and, pick_or, Bool.and_eq_true, Bool.or_eq_true, Bool.and_eq_false_iff, Bool.or_eq_false_iff, ne_eq, not_false_eq_true, Bool.not_eq_true', Bool.not_eq_false', reduceCtorEq, Nat.le_refl, Nat.zero_mul, Nat.mul_one, Nat.zero_add, Int.reduceToNat, ones, one, add_mk, Decidable.not_not, cond_true, cond_false, true_implies, false_implies, implies_true, Bool.not_true, Bool.not_false]
  rw [wrap_u64 (n := (s.e : Int)) (by omega) (by omega), wrap_u64 (n := (s.f : Int)) (by omega) (by omega), wrap_u64 (n := (s.f : Int) + 1) (by omega) (by omega)]
  refine ⟨fun h1 => ⟨fun h3 => non (by unfold stT; rw [if_neg (by omega)]) w2 h2 x02, fun h3 => ?_⟩, fun h1 => non (by unfold stT; rw [if_neg (by omega)]) w2 h2 x02⟩
  have er : IntKind.i64.wrap (IntKind.i64.wrap (r : Int) - 1) = ((r - 1 : Nat) : Int) := by
    rw [wrap_i64 (n := (r : Int)) (by omega) (by omega), wrap_i64 (by omega) (by omega)]; omega
  rw [er]
  obtain ⟨p, x, hp, hx, hcx⟩ := o2.words.word (r - 1) (by show r - 1 < A.ws.length; omega)
  rw [Nat.mul_one] at hcx
  have hxl := ok.lt x (List.mem_of_getElem? hx)
  refine ⟨sl, b2.cell 1, by omega, by show ((r - 1 : Nat) : Int) < ((A.ws.length : Nat) : Int); omega, p, hp, x, hcx, ⟨(runpack_spec hxl w2).mono ?_⟩⟩
  rintro e w3 ⟨rfl, x3⟩
  have x03 := x02.trans x3
  refine ⟨_, _, _, _, _, rfl, fun w4 n4 => ⟨rfl, HB.can n4, fun w5 s5 => ?_⟩⟩
  obtain ⟨b5, y5⟩ := HB.made n4 s5
  have x35 := x3.trans y5
  have x05 := x02.trans x35
  have h5 := h2.ext x35
  have k5 := k2.ext x35
  have f5 := hb.ext x05
  have o5 := ho.ext x05
  have hst : r ≤ s.e → s.f < r → stT A s r = if mayT (unpT x) = true ∧ r - 1 + (unpT x).l.toNat + 2 ≤ s.e ∧ A.ws[r - 1 + (unpT x).l.toNat + 1]? = some (18446744073709551615 - x) then some (unpT x) else none := fun h6 h7 => by
    unfold stT; rw [if_pos ⟨h7, h6⟩, hx]
  by_cases hm : mayT (unpT x) = true
  rotate_left
  · have e2 : (unpO x).2 = false := by unfold unpO; rw [if_neg hm]
    rw [e2]
    refine ⟨fun h => (by cases h), fun _ w6 q6 => non ?_ w6 (h5.ext q6.ext) (x05.trans q6.ext)⟩
    rw [hst (by omega) (by omega), if_neg fun hh => hm hh.1]
  have e2 : (unpO x).2 = true := by unfold unpO; rw [if_pos hm]
  have e1 : (unpO x).1 = unpT x := by unfold unpO; rw [if_pos hm]
  rw [e1] at b5
  rw [e2]
  have m : MayT (unpT x) := of_decide_eq_true hm
  have ml := m.le
  have m0 : 0 ≤ (unpT x).l := m.2.2.1
  obtain ⟨len, hlen'⟩ : ∃ n : Nat, (unpT x).l = n := ⟨(unpT x).l.toNat, by omega⟩
  rw [hlen', Int.toNat_natCast] at hst
  refine ⟨fun _ => ⟨_, b5.cell 2, _, k5.cell 1, ?_⟩, fun h => (by cases h)⟩
  have el : IntKind.i64.wrap (IntKind.i64.wrap (((r - 1 : Nat) : Int) + (unpT x).l) + 2) = ((r - 1 + len + 2 : Nat) : Int) := by
    rw [hlen', wrap_i64 (n := ((r - 1 : Nat) : Int) + (len : Int)) (by omega) (by omega), wrap_i64 (by omega) (by omega)]; omega
  have el1 : IntKind.i64.wrap (IntKind.i64.wrap (((r - 1 : Nat) : Int) + (unpT x).l) + 1) = ((r - 1 + len + 1 : Nat) : Int) := by
    rw [hlen', wrap_i64 (n := ((r - 1 : Nat) : Int) + (len : Int)) (by omega) (by omega), wrap_i64 (by omega) (by omega)]; omega
  rw [el]
  refine ⟨fun h6 => ?_, fun h6 w6 q6 => non (by rw [hst (by omega) (by omega), if_neg (by omega)]) w6 (h5.ext q6.ext) (x05.trans q6.ext)⟩
  obtain ⟨p1, y, hp1, hy, hcy⟩ := o5.words.word (r - 1 + len + 1) (by show r - 1 + len + 1 < A.ws.length; omega)
  obtain ⟨p2, x', hp2, hx', hcx'⟩ := o5.words.word (r - 1) (by show r - 1 < A.ws.length; omega)
  rw [Nat.mul_one] at hcy hcx'
  rw [hx] at hx'; injection hx' with hx'; subst hx'
  refine ⟨sl, f5.cell 1, _, b5.cell 2, ?_⟩
  rw [el1]
  refine ⟨by omega, by show ((r - 1 + len + 1 : Nat) : Int) < ((A.ws.length : Nat) : Int); omega, p1, hp1, y, hcy, sl, f5.cell 1, by omega, by show ((r - 1 : Nat) : Int) < ((A.ws.length : Nat) : Int); omega, p2, hp2, x, hcx', fun w6 q6 => ?_⟩
  have x06 := x05.trans q6.ext
  have h6b := h5.ext q6.ext
  have b6 := b5.ext q6.ext
  rw [not_u64 hxl]
  refine ⟨fun hne => non ?_ w6 h6b x06, fun heq => ?_⟩
  · rw [hst (by omega) (by omega), if_neg ?_]
    rintro ⟨_, _, hh⟩
    rw [hy] at hh; injection hh with hh
    exact hne (by rw [hh])
  · refine ⟨_, _, _, _, rfl, ⟨b6.cell 0, b6.cell 1, b6.cell 2, b6.cell 3⟩, rfl, h6b.canSetN 0 4 (by simp), fun w7 s7 => ?_⟩
    have b7 : HB w7 w1.heap.size (unpT x) := HB.set h6b s7
    refine ⟨_, _, _, _, rfl, ⟨b7.cell 0, b7.cell 1, b7.cell 2, b7.cell 3⟩, rt ?_, x06.fresh s7.upd (by rintro i rfl; exact n1.ext.size)⟩
    rw [hst (by omega) (by omega), if_pos ⟨hm, by omega, by rw [hy]; congr 1; omega⟩]
    rfl
end Go.Proofs.Ytggpomialmpgoaa.V
namespace Go.Proofs.Ytggpomialmpgoaa.V
open Go Go.RowKit
set_option linter.unusedVariables false
set_option linter.unusedSimpArgs false
set_option maxRecDepth 100000

theorem Ar.Ok.useIn {A : Ar} (h : A.Ok) : A.use.f ≤ A.n ∧ A.use.f ≤ 2 * A.n ∧ A.use.e ≤ 2 * A.n := by
  have h1 := h.use; have h2 := h.use1
  omega
theorem Ar.Ok.nxtIn {A : Ar} (h : A.Ok) : A.nxt.f ≤ 2 * A.n ∧ A.nxt.e ≤ 2 * A.n ∧ A.nxt.f ≤ A.nxt.e := by
  have h1 := h.use
  cases ho : A.opn with
  | true => have := h.nxt ho; omega
  | false => rw [h.nxt0 ho]; dsimp only; omega
theorem stT_in {A : Ar} {s : Sp} {r : Nat} {h : Hd} (hs : stT A s r = some h) : s.f < r ∧ MayT h ∧ r + h.l.toNat + 1 ≤ s.e ∧ ∃ x, A.ws[r - 1]? = some x ∧ h = unpT x ∧ A.ws[r + h.l.toNat]? = some (18446744073709551615 - x) := by
  unfold stT at hs
  split at hs
  · rename_i h1
    split at hs
    · rename_i x hx
      split at hs
      · rename_i h2
        injection hs with hs
        subst hs
        refine ⟨h1.1, of_decide_eq_true h2.1, by omega, x, hx, rfl, ?_⟩
        have := h2.2.2
        rw [show r + (unpT x).l.toNat = r - 1 + (unpT x).l.toNat + 1 by omega]
        exact this
      · cases hs
    · cases hs
  · cases hs
def headT (A : Ar) (r : Nat) : Option Hd :=
  match stT A A.use r with
  | some h => some h
  | none => if A.opn = true then stT A A.nxt r else none
theorem headT_in {A : Ar} (ok : A.Ok) {r : Nat} {h : Hd} (hs : headT A r = some h) : 1 ≤ r ∧ MayT h ∧ r + h.l.toNat + 1 ≤ 2 * A.n := by
  have h1 := ok.useIn; have h2 := ok.nxtIn
  unfold headT at hs
  split at hs
  · rename_i h' h3
    injection hs with hs; subst hs
    have := stT_in h3
    exact ⟨by omega, this.2.1, by omega⟩
  · split at hs
    · have := stT_in hs
      exact ⟨by omega, this.2.1, by omega⟩
    · cases hs
/-- where an object's cell is -/
def placeT (A : Ar) (r : Nat) (i : Int) : Option Nat :=
  match headT A r with
  | some h => if 0 ≤ i ∧ i < h.l then some (r + i.toNat) else none
  | none => none
theorem header_spec {w : World} {b g : Nat} {A : Ar} (h : ArW 91 w b g A) {r : Nat} (hr : r < 18446744073709551616) :
    Calls Try.prog 27 #[.pointer (some ⟨g, 0, none⟩), .int .u64 (r : Nat)] w fun e w' => e = .returned (hoV (headT A r)) ∧ Ext w w' := by
  refine vc_27 _ _ _ _ ?_
  have h1 := h.ok.useIn; have h2 := h.ok.nxtIn
  simp only [eq_self, false_or, or_false, true_and, and_true, decide_eq_true_eq, decide_eq_false_iff_not, gd_st, gd_sf, exists_eq_left', exists_eq_left, Option.some.injEq, Sl.eta, Nat.reduceLeDiff, Int.reduceLE, Int.reduceLT, Int.reduceEq, Int.reduceNe, Nat.reduceMul, Nat.reduceAdd, Nat.reduceSub, Int.toNat_natCast, beq_iff_eq, bne_iff_ne, beq_eq_false_iff_ne, bne_eq_false_iff_eq, pick_and, pick_or, Bool.and_eq_true, Bool.or_eq_true, Bool.and_eq_false_iff, Bool.or_eq_false_iff, ne_eq, not_false_eq_true, Bool.not_eq_true', Bool.not_eq_false', reduceCtorEq, Nat.le_refl, Nat.zero_mul, Nat.mul_one, Nat.zero_add, Int.reduceToNat, ones, one, add_mk, Decidable.not_not, cond_true, cond_false, true_implies, false_implies, implies_true, Bool.not_true, Bool.not_false]
  intro w1 n1
  have a1 := h.ext n1.ext
  refine ⟨_, _, rfl, ⟨a1.hd.cell 2, a1.hd.cell 3⟩, ⟨(in_spec a1 (s := A.use) h1.2.1 h1.2.2 hr).mono ?_⟩⟩
  rintro e w2 ⟨rfl, x2⟩
  refine ⟨_, _, _, _, _, rfl, fun w3 n3 => ⟨rfl, HB.can n3, fun w4 s4 => ?_⟩⟩
  obtain ⟨b4, y4⟩ := HB.made n3 s4
  have x14 := x2.trans y4
  have x04 := n1.ext.trans x14
  have a4 := h.ext x04
  have h4 := (Blk.new n1).ext x14
  have fin : ∀ w5 (hd : Hd), Ext w w5 → SetW w5 ⟨w.heap.size, 0, none⟩ [.int .i64 hd.k, .int .i64 hd.t, .int .i64 hd.l, .int .u64 (hd.r : Nat)] w5 → True := fun _ _ _ _ => trivial
  cases hst : stT A A.use r with
  | some hd =>
    have hh : headT A r = some hd := by unfold headT; rw [hst]
    rw [hst] at b4
    refine ⟨fun h => (by cases h), fun _ => ⟨_, _, _, _, rfl, ⟨b4.cell 0, b4.cell 1, b4.cell 2, b4.cell 3⟩, rfl, h4.canSetN 0 4 (by simp), fun w5 s5 => ?_⟩⟩
    have b5 : HB w5 w.heap.size hd := HB.set h4 s5
    refine ⟨_, _, _, _, rfl, ⟨b5.cell 0, b5.cell 1, b5.cell 2, b5.cell 3⟩, rt (by rw [hh]; rfl), x04.fresh s5.upd (by rintro i rfl; exact Nat.le_refl _)⟩
  | none =>
    rw [hst] at b4
    refine ⟨fun _ => ⟨A.opn, a4.hd.cell 6, fun ho => ⟨_, _, _, _, rfl, ⟨b4.cell 0, b4.cell 1, b4.cell 2, b4.cell 3⟩, rfl, h4.canSetN 0 4 (by simp), fun w5 s5 => ?_⟩, fun ho => ?_⟩, fun h => (by cases h)⟩
    · have hh : headT A r = none := by unfold headT; rw [hst]; simp [ho]
      have b5 : HB w5 w.heap.size hd0 := HB.set h4 s5
      refine ⟨_, _, _, _, rfl, ⟨b5.cell 0, b5.cell 1, b5.cell 2, b5.cell 3⟩, rt (by rw [hh]; rfl), x04.fresh s5.upd (by rintro i rfl; exact Nat.le_refl _)⟩
    · have hh : headT A r = stT A A.nxt r := by unfold headT; rw [hst]; simp [ho]
      refine ⟨_, _, rfl, ⟨a4.hd.cell 4, a4.hd.cell 5⟩, ⟨(in_spec a4 (s := A.nxt) h2.1 h2.2.1 hr).mono ?_⟩⟩
      rintro e w5 ⟨rfl, x5⟩
      have h5 := h4.ext x5
      refine ⟨_, _, _, _, _, rfl, rfl, h5.canSetN 0 4 (by simp), fun w6 s6 => ?_⟩
      have b6 : HB w6 w.heap.size ((stT A A.nxt r).getD hd0) := HB.set h5 s6
      refine ⟨_, _, _, _, rfl, ⟨b6.cell 0, b6.cell 1, b6.cell 2, b6.cell 3⟩, rt (by rw [hh]), (x04.trans x5).fresh s6.upd (by rintro i rfl; exact Nat.le_refl _)⟩
theorem rheader_spec {w : World} {b g : Nat} {A : Ar} (h : ArW 71 w b g A) {r : Nat} (hr : r < 18446744073709551616) :
    Calls Try.prog 39 #[.pointer (some ⟨g, 0, none⟩), .int .u64 (r : Nat)] w fun e w' => e = .returned (hoV (headT A r)) ∧ Ext w w' := by
  refine vc_39 _ _ _ _ ?_
  have h1 := h.ok.useIn; have h2 := h.ok.nxtIn
  simp only [eq_self, false_or, or_false, true_and, and_true, decide_eq_true_eq, decide_eq_false_iff_not, gd_st, gd_sf, exists_eq_left', exists_eq_left, Option.some.injEq, Sl.eta, Nat.reduceLeDiff, Int.reduceLE, Int.reduceLT, Int.reduceEq, Int.reduceNe, Nat.reduceMul, Nat.reduceAdd, Nat.reduceSub, Int.toNat_natCast, beq_iff_eq, bne_iff_ne, beq_eq_false_iff_ne, bne_eq_false_iff_eq, pick_and, pick_or, Bool.and_eq_true, Bool.or_eq_true, Bool.and_eq_false_iff, Bool.or_eq_false_iff, ne_eq, not_false_eq_true, Bool.not_eq_true', Bool.not_eq_false', reduceCtorEq, Nat.le_refl, Nat.zero_mul, Nat.mul_one, Nat.zero_add, Int.reduceToNat, ones, one, add_mk, Decidable.not_not, cond_true, cond_false, true_implies, false_implies, implies_true, Bool.not_true, Bool.not_false]
  intro w1 n1
  have a1 := h.ext n1.ext
  refine ⟨_, _, rfl, ⟨a1.hd.cell 2, a1.hd.cell 3⟩, ⟨(rin_spec a1 (s := A.use) h1.2.1 h1.2.2 hr).mono ?_⟩⟩
  rintro e w2 ⟨rfl, x2⟩
  refine ⟨_, _, _, _, _, rfl, fun w3 n3 => ⟨rfl, HB.can n3, fun w4 s4 => ?_⟩⟩
  obtain ⟨b4, y4⟩ := HB.made n3 s4
  have x14 := x2.trans y4
  have x04 := n1.ext.trans x14
  have a4 := h.ext x04
  have h4 := (Blk.new n1).ext x14
  cases hst : stT A A.use r with
  | some hd =>
    have hh : headT A r = some hd := by unfold headT; rw [hst]
    rw [hst] at b4
    refine ⟨fun h => (by cases h), fun _ => ⟨_, _, _, _, rfl, ⟨b4.cell 0, b4.cell 1, b4.cell 2, b4.cell 3⟩, rfl, h4.canSetN 0 4 (by simp), fun w5 s5 => ?_⟩⟩
    have b5 : HB w5 w.heap.size hd := HB.set h4 s5
    refine ⟨_, _, _, _, rfl, ⟨b5.cell 0, b5.cell 1, b5.cell 2, b5.cell 3⟩, rt (by rw [hh]; rfl), x04.fresh s5.upd (by rintro i rfl; exact Nat.le_refl _)⟩
  | none =>
    rw [hst] at b4
    refine ⟨fun _ => ⟨A.opn, a4.hd.cell 6, fun ho => ?_, fun ho => ⟨_, _, _, _, rfl, ⟨b4.cell 0, b4.cell 1, b4.cell 2, b4.cell 3⟩, rfl, h4.canSetN 0 4 (by simp), fun w5 s5 => ?_⟩⟩, fun h => (by cases h)⟩
    · have hh : headT A r = stT A A.nxt r := by unfold headT; rw [hst]; simp [ho]
      refine ⟨_, _, rfl, ⟨a4.hd.cell 4, a4.hd.cell 5⟩, ⟨(rin_spec a4 (s := A.nxt) h2.1 h2.2.1 hr).mono ?_⟩⟩
      rintro e w5 ⟨rfl, x5⟩
      have b5 := b4.ext x5
      refine ⟨_, _, _, _, _, rfl, rfl, b5.canSetN 0 4 (by simp), fun w6 s6 => ?_⟩
      have b6 : HB w6 w2.heap.size ((stT A A.nxt r).getD hd0) := HB.set b5 s6
      have z2 := (n1.ext.trans x2).size
      have z1 := (Blk.new n1).lt
      have z2' := x2.size
      have h6 := (h4.ext x5).upd s6.upd (by dsimp only; omega)
      refine ⟨_, _, _, _, rfl, ⟨b6.cell 0, b6.cell 1, b6.cell 2, b6.cell 3⟩, rfl, h6.canSetN 0 4 (by simp), fun w7 s7 => ?_⟩
      have b7 : HB w7 w.heap.size ((stT A A.nxt r).getD hd0) := HB.set h6 s7
      refine ⟨_, _, _, _, rfl, ⟨b7.cell 0, b7.cell 1, b7.cell 2, b7.cell 3⟩, rt (by rw [hh]), ((x04.trans x5).fresh s6.upd (by rintro i rfl; exact z2)).fresh s7.upd (by rintro i rfl; exact Nat.le_refl _)⟩
    · have hh : headT A r = none := by unfold headT; rw [hst]; simp [ho]
      have b5 : HB w5 w.heap.size hd0 := HB.set h4 s5
      refine ⟨_, _, _, _, rfl, ⟨b5.cell 0, b5.cell 1, b5.cell 2, b5.cell 3⟩, rt (by rw [hh]; rfl), x04.fresh s5.upd (by rintro i rfl; exact Nat.le_refl _)⟩
end Go.Proofs.Ytggpomialmpgoaa.V
namespace Go.Proofs.Ytggpomialmpgoaa.V
open Go Go.RowKit
set_option linter.unusedVariables false
set_option linter.unusedSimpArgs false
set_option maxRecDepth 100000

theorem placeT_in {A : Ar} (ok : A.Ok) {r : Nat} {i : Int} {j : Nat} (h : placeT A r i = some j) : j < A.ws.length ∧ 1 ≤ r ∧ r ≤ 131072 ∧ 0 ≤ i ∧ j = r + i.toNat ∧ ∃ hd, headT A r = some hd ∧ i < hd.l := by
  unfold placeT at h
  have := ok.n; have hl := ok.len
  split at h
  · rename_i hd hh
    split at h
    · rename_i hi
      injection h with h
      subst h
      obtain ⟨h1, h2, h3⟩ := headT_in ok hh
      exact ⟨by omega, h1, by omega, hi.1, rfl, hd, hh, hi.2⟩
    · cases h
  · cases h
def cellO (A : Ar) (r : Nat) (i : Int) : Nat × Int :=
  match placeT A r i with
  | some j => (A.ws.getD j 0, 0)
  | none => (0, 20)
def Ar.put (A : Ar) (j x : Nat) : Ar := { A with ws := A.ws.set j x }
def setO (A : Ar) (r : Nat) (i : Int) (x : Nat) : Ar × Int :=
  match placeT A r i with
  | some j => (A.put j x, 0)
  | none => (A, 20)
theorem Ar.Ok.put {A : Ar} (h : A.Ok) {j x : Nat} (hx : x < 18446744073709551616) : (A.put j x).Ok :=
  ⟨h.n, by show (A.ws.set j x).length = _; rw [List.length_set]; exact h.len, fun y hy => by
    rcases List.mem_or_eq_of_mem_set hy with h1 | h1
    · exact h.lt y h1
    · rw [h1]; exact hx, h.use, h.use1, h.nxt, h.nxt0⟩
section
variable {t : Nat} {w w' : World} {b g : Nat} {A : Ar}
/-- a word is set -/
theorem ArW.put (h : ArW t w b g A) (ht : t ≠ 35) {j x : Nat} (hx : x < 18446744073709551616) (s : SetW w ((⟨b, 0, none⟩ : Addr).add j) [.int .u64 (x : Nat)] w') : ArW t w' b g (A.put j x) ∧ Upd (fun k => k = b) w w' := by
  rw [add_mk, Nat.zero_add] at s
  have hne : g ≠ b := h.hd.ne h.ws ht
  have k := s.blk1 h.ws
  rw [uv_set] at k
  refine ⟨⟨h.ok.put hx, ?_, k⟩, s.upd⟩
  have := h.hd.upd s.upd hne
  show Blk w' g t [.int .i64 (A.n : Nat), .slice (some ⟨b, 0, none⟩) (A.ws.set j x).length (A.ws.set j x).length, _, _, _, _, _]
  rw [List.length_set]
  exact this
theorem ArW.can (h : ArW t w b g A) {j : Nat} (hj : j < A.ws.length) : CanSet w ((⟨b, 0, none⟩ : Addr).add j) 1 := by
  rw [add_mk, Nat.zero_add]
  exact h.ws.canSet j (by simpa using hj)
theorem ArW.wordAt (h : ArW t w b g A) {j : Nat} (hj : j < A.ws.length) : w.cell? ((⟨b, 0, none⟩ : Addr).add j) = some (.int .u64 (A.ws.getD j 0 : Nat)) := by
  rw [add_mk, Nat.zero_add, h.ws.cell, List.getD_eq_getElem?_getD, List.getElem?_eq_getElem hj]
  simp [uv, hj]
end
theorem cell_spec {w : World} {b g : Nat} {A : Ar} (h : ArW 91 w b g A) {r : Nat} (hr : r < 18446744073709551616) {i : Int} (hi : i ≤ 9223372036854775807) :
    Calls Try.prog 34 #[.pointer (some ⟨g, 0, none⟩), .int .u64 (r : Nat), .int .i64 i] w fun e w' => e = .returned (.tuple #[.pointer ((placeT A r i).map fun j => ⟨b, j, none⟩), .bool (placeT A r i).isSome]) ∧ Ext w w' := by
  refine vc_34 _ _ _ _ _ ?_
  have hn := h.ok.n; have hlen := h.ok.len
  simp only [eq_self, false_or, or_false, true_and, and_true, decide_eq_true_eq, decide_eq_false_iff_not, gd_st, gd_sf, exists_eq_left', exists_eq_left, Option.some.injEq, Sl.eta, Nat.reduceLeDiff, Int.reduceLE, Int.reduceLT, Int.reduceEq, Int.reduceNe, Nat.reduceMul, Nat.reduceAdd, Nat.reduceSub, Int.toNat_natCast, beq_iff_eq, bne_iff_ne, beq_eq_false_iff_ne, bne_eq_false_iff_eq, pick_and, pick_or, Bool.and_eq_true, Bool.or_eq_true, Bool.and_eq_false_iff, Bool.or_eq_false_iff, ne_eq, not_false_eq_true, Bool.not_eq_true', Bool.not_eq_false', reduceCtorEq, Nat.le_refl, Nat.zero_mul, Nat.mul_one, Nat.zero_add, Int.reduceToNat, ones, one, add_mk, Decidable.not_not, cond_true, cond_false, true_implies, false_implies, implies_true, Bool.not_true, Bool.not_false]
  refine ⟨(header_spec h hr).mono ?_⟩
  rintro e w1 ⟨rfl, x1⟩
  refine ⟨_, _, _, _, _, rfl, fun w2 n2 => ⟨rfl, HB.can n2, fun w3 s3 => ?_⟩⟩
  obtain ⟨b3, y3⟩ := HB.made n2 s3
  have x3 := x1.trans y3
  have a3 := h.ext x3
  cases hh : headT A r with
  | none =>
    have hp : placeT A r i = none := by unfold placeT; rw [hh]
    rw [hp]
    exact ⟨fun h => (by cases h), fun _ => ⟨rfl, x3⟩⟩
  | some hd =>
    rw [hh] at b3
    obtain ⟨h1, h2, h3⟩ := headT_in h.ok hh
    have h2l := h2.le
    have h20 : 0 ≤ hd.l := h2.2.2.1
    refine ⟨fun _ => ⟨fun hi0 => ⟨hd.l, b3.cell 2, fun hle => ?_, fun hlt => ?_⟩, fun hi0 => ?_⟩, fun h => (by cases h)⟩
    · have hp : placeT A r i = none := by unfold placeT; rw [hh]; dsimp only; rw [if_neg (by omega)]
      rw [hp]; exact ⟨rfl, x3⟩
    · have hp : placeT A r i = some (r + i.toNat) := by unfold placeT; rw [hh]; dsimp only; rw [if_pos (by omega)]
      rw [hp]
      have er : IntKind.i64.wrap (IntKind.i64.wrap (r : Int) + i) = ((r + i.toNat : Nat) : Int) := by
        rw [wrap_i64 (n := (r : Int)) (by omega) (by omega), wrap_i64 (by omega) (by omega)]; omega
      refine ⟨⟨some ⟨b, 0, none⟩, A.ws.length, A.ws.length⟩, a3.hd.cell 1, ?_⟩
      rw [er]
      refine ⟨by omega, by show ((r + i.toNat : Nat) : Int) < ((A.ws.length : Nat) : Int); omega, _, rfl, ?_, x3⟩
      rw [Int.toNat_natCast, add_mk, Nat.zero_add]; rfl
    · have hp : placeT A r i = none := by unfold placeT; rw [hh]; dsimp only; rw [if_neg (by omega)]
      rw [hp]; exact ⟨rfl, x3⟩
theorem Cell_spec {w : World} {b g : Nat} {A : Ar} (h : ArW 91 w b g A) {r : Nat} (hr : r < 18446744073709551616) {i : Int} (hi : i ≤ 9223372036854775807) :
    Calls Try.prog 19 #[.pointer (some ⟨g, 0, none⟩), .int .u64 (r : Nat), .int .i64 i] w fun e w' => e = .returned (.tuple #[.int .u64 ((cellO A r i).1 : Nat), .int .i64 (cellO A r i).2]) ∧ Ext w w' := by
  refine vc_19 _ _ _ _ _ ?_
  simp only [eq_self, false_or, or_false, true_and, and_true, decide_eq_true_eq, decide_eq_false_iff_not, gd_st, gd_sf, exists_eq_left', exists_eq_left, Option.some.injEq, Sl.eta, Nat.reduceLeDiff, Int.reduceLE, Int.reduceLT, Int.reduceEq, Int.reduceNe, Nat.reduceMul, Nat.reduceAdd, Nat.reduceSub, Int.toNat_natCast, beq_iff_eq, bne_iff_ne, beq_eq_false_iff_ne, bne_eq_false_iff_eq, pick_and, pick_or, Bool.and_eq_true, Bool.or_eq_true, Bool.and_eq_false_iff, Bool.or_eq_false_iff, ne_eq, not_false_eq_true, Bool.not_eq_true', Bool.not_eq_false', reduceCtorEq, Nat.le_refl, Nat.zero_mul, Nat.mul_one, Nat.zero_add, Int.reduceToNat, ones, one, add_mk, Decidable.not_not, cond_true, cond_false, true_implies, false_implies, implies_true, Bool.not_true, Bool.not_false]
  refine ⟨(cell_spec h hr hi).mono ?_⟩
  rintro e w1 ⟨rfl, x1⟩
  unfold cellO
  cases hp : placeT A r i with
  | none => exact ⟨_, _, rfl, fun _ => ⟨rfl, x1⟩, fun h => (by cases h)⟩
  | some j =>
    have hj := (placeT_in h.ok hp).1
    have := (h.ext x1).wordAt hj
    rw [add_mk, Nat.zero_add] at this
    exact ⟨_, _, rfl, fun h => (by cases h), fun _ => ⟨_, rfl, _, this, rfl, x1⟩⟩
theorem SetCell_spec {w : World} {b g : Nat} {A : Ar} (h : ArW 91 w b g A) {r : Nat} (hr : r < 18446744073709551616) {i : Int} (hi : i ≤ 9223372036854775807) {x : Nat} (hx : x < 18446744073709551616) :
    Calls Try.prog 41 #[.pointer (some ⟨g, 0, none⟩), .int .u64 (r : Nat), .int .i64 i, .int .u64 (x : Nat)] w fun e w' => e = .returned (.int .i64 (setO A r i x).2) ∧ ArW 91 w' b g (setO A r i x).1 ∧ Upd (fun k => k = b) w w' := by
  refine vc_41 _ _ _ _ _ _ ?_
  simp only [eq_self, false_or, or_false, true_and, and_true, decide_eq_true_eq, decide_eq_false_iff_not, gd_st, gd_sf, exists_eq_left', exists_eq_left, Option.some.injEq, Sl.eta, Nat.reduceLeDiff, Int.reduceLE, Int.reduceLT, Int.reduceEq, Int.reduceNe, Nat.reduceMul, Nat.reduceAdd, Nat.reduceSub, Int.toNat_natCast, beq_iff_eq, bne_iff_ne, beq_eq_false_iff_ne, bne_eq_false_iff_eq, pick_and, pick_or, Bool.and_eq_true, Bool.or_eq_true, Bool.and_eq_false_iff, Bool.or_eq_false_iff, ne_eq, not_false_eq_true, Bool.not_eq_true', Bool.not_eq_false', reduceCtorEq, Nat.le_refl, Nat.zero_mul, Nat.mul_one, Nat.zero_add, Int.reduceToNat, ones, one, add_mk, Decidable.not_not, cond_true, cond_false, true_implies, false_implies, implies_true, Bool.not_true, Bool.not_false]
  refine ⟨(cell_spec h hr hi).mono ?_⟩
  rintro e w1 ⟨rfl, x1⟩
  unfold setO
  have a1 := h.ext x1
  cases hp : placeT A r i with
  | none => exact ⟨_, _, rfl, fun _ => ⟨rfl, a1, x1.toS⟩, fun h => (by cases h)⟩
  | some j =>
    have hj := (placeT_in h.ok hp).1
    have hc := a1.can hj
    rw [add_mk, Nat.zero_add] at hc
    refine ⟨_, _, rfl, fun h => (by cases h), fun _ => ⟨_, rfl, hc, fun w2 s2 => ?_⟩⟩
    obtain ⟨a2, u2⟩ := a1.put (j := j) (by decide) hx (by rw [add_mk, Nat.zero_add]; exact s2)
    exact ⟨rfl, a2, x1.upd u2⟩
def wordO (A : Ar) (i : Int) : Nat × Bool := if 0 ≤ i ∧ i < A.ws.length then (A.ws.getD i.toNat 0, true) else (0, false)
def setWO (A : Ar) (i : Int) (x : Nat) : Ar × Bool := if 0 ≤ i ∧ i < A.ws.length then (A.put i.toNat x, true) else (A, false)
theorem word_spec {w : World} {b g : Nat} {A : Ar} (h : ArW 91 w b g A) (i : Int) :
    Calls Try.prog 23 #[.pointer (some ⟨g, 0, none⟩), .int .i64 i] w fun e w' => e = .returned (.tuple #[.int .u64 ((wordO A i).1 : Nat), .bool (wordO A i).2]) ∧ w' = w := by
  refine vc_23 _ _ _ _ ?_
  simp only [eq_self, false_or, or_false, true_and, and_true, decide_eq_true_eq, decide_eq_false_iff_not, gd_st, gd_sf, exists_eq_left', exists_eq_left, Option.some.injEq, Sl.eta, Nat.reduceLeDiff, Int.reduceLE, Int.reduceLT, Int.reduceEq, Int.reduceNe, Nat.reduceMul, Nat.reduceAdd, Nat.reduceSub, Int.toNat_natCast, beq_iff_eq, bne_iff_ne, beq_eq_false_iff_ne, bne_eq_false_iff_eq, pick_and, pick_or, Bool.and_eq_true, Bool.or_eq_true, Bool.and_eq_false_iff, Bool.or_eq_false_iff, ne_eq, not_false_eq_true, Bool.not_eq_true', Bool.not_eq_false', reduceCtorEq, Nat.le_refl, Nat.zero_mul, Nat.mul_one, Nat.zero_add, Int.reduceToNat, ones, one, add_mk, Decidable.not_not, cond_true, cond_false, true_implies, false_implies, implies_true, Bool.not_true, Bool.not_false]
  refine ⟨fun h0 => ⟨⟨some ⟨b, 0, none⟩, A.ws.length, A.ws.length⟩, h.hd.cell 1, fun h1 => ?_, fun h1 => ⟨⟨some ⟨b, 0, none⟩, A.ws.length, A.ws.length⟩, h.hd.cell 1, by omega, by omega, _, rfl, _, h.wordAt (by dsimp only at h1; omega), ?_⟩⟩, fun h0 => ?_⟩
  · unfold wordO; rw [if_neg (by dsimp only at h1; omega)]; rfl
  · unfold wordO; rw [if_pos (by dsimp only at h1; omega)]
  · unfold wordO; rw [if_neg (by omega)]; rfl
theorem setWord_spec {w : World} {b g : Nat} {A : Ar} (h : ArW 91 w b g A) (i : Int) {x : Nat} (hx : x < 18446744073709551616) :
    Calls Try.prog 45 #[.pointer (some ⟨g, 0, none⟩), .int .i64 i, .int .u64 (x : Nat)] w fun e w' => e = .returned (.bool (setWO A i x).2) ∧ ArW 91 w' b g (setWO A i x).1 ∧ Upd (fun k => k = b) w w' := by
  refine vc_45 _ _ _ _ _ ?_
  simp only [eq_self, false_or, or_false, true_and, and_true, decide_eq_true_eq, decide_eq_false_iff_not, gd_st, gd_sf, exists_eq_left', exists_eq_left, Option.some.injEq, Sl.eta, Nat.reduceLeDiff, Int.reduceLE, Int.reduceLT, Int.reduceEq, Int.reduceNe, Nat.reduceMul, Nat.reduceAdd, Nat.reduceSub, Int.toNat_natCast, beq_iff_eq, bne_iff_ne, beq_eq_false_iff_ne, bne_eq_false_iff_eq, pick_and, pick_or, Bool.and_eq_true, Bool.or_eq_true, Bool.and_eq_false_iff, Bool.or_eq_false_iff, ne_eq, not_false_eq_true, Bool.not_eq_true', Bool.not_eq_false', reduceCtorEq, Nat.le_refl, Nat.zero_mul, Nat.mul_one, Nat.zero_add, Int.reduceToNat, ones, one, add_mk, Decidable.not_not, cond_true, cond_false, true_implies, false_implies, implies_true, Bool.not_true, Bool.not_false]
  refine ⟨fun h0 => ⟨⟨some ⟨b, 0, none⟩, A.ws.length, A.ws.length⟩, h.hd.cell 1, fun h1 => ?_, fun h1 => ⟨⟨some ⟨b, 0, none⟩, A.ws.length, A.ws.length⟩, h.hd.cell 1, by omega, by omega, _, rfl, h.can (by dsimp only at h1; omega), fun w1 s1 => ?_⟩⟩, fun h0 => ?_⟩
  · unfold setWO; rw [if_neg (by dsimp only at h1; omega)]; exact ⟨rfl, h, .refl _ _⟩
  · unfold setWO; rw [if_pos (by dsimp only at h1; omega)]
    obtain ⟨a1, u1⟩ := h.put (by decide) hx s1
    exact ⟨rfl, a1, u1⟩
  · unfold setWO; rw [if_neg (by omega)]; exact ⟨rfl, h, .refl _ _⟩
end Go.Proofs.Ytggpomialmpgoaa.V
namespace Go.Proofs.Ytggpomialmpgoaa.V
open Go Go.RowKit
set_option linter.unusedVariables false
set_option linter.unusedSimpArgs false
set_option maxRecDepth 100000

theorem rCell_spec {w : World} {b g : Nat} {A : Ar} (h : ArW 71 w b g A) {r : Nat} (hr : r < 18446744073709551616) {i : Int} (hi : i ≤ 9223372036854775807) :
    Calls Try.prog 43 #[.pointer (some ⟨g, 0, none⟩), .int .u64 (r : Nat), .int .i64 i] w fun e w' => e = .returned (.tuple #[.int .u64 ((cellO A r i).1 : Nat), .int .i64 (cellO A r i).2]) ∧ Ext w w' := by
  refine vc_43 _ _ _ _ _ ?_
  have hn := h.ok.n; have hlen := h.ok.len
  simp only [eq_self, false_or, or_false, true_and, and_true, decide_eq_true_eq, decide_eq_false_iff_not, gd_st, gd_sf, exists_eq_left', exists_eq_left, Option.some.injEq, Sl.eta, Nat.reduceLeDiff, Int.reduceLE, Int.reduceLT, Int.reduceEq, Int.reduceNe, Nat.reduceMul, Nat.reduceAdd, Nat.reduceSub, Int.toNat_natCast, beq_iff_eq, bne_iff_ne, beq_eq_false_iff_ne, bne_eq_false_iff_eq, pick_and, pick_or, Bool.and_eq_true, Bool.or_eq_true, Bool.and_eq_false_iff, Bool.or_eq_false_iff, ne_eq, not_false_eq_true, Bool.not_eq_true', Bool.not_eq_false', reduceCtorEq, Nat.le_refl, Nat.zero_mul, Nat.mul_one, Nat.zero_add, Int.reduceToNat, ones, one, add_mk, Decidable.not_not, cond_true, cond_false, true_implies, false_implies, implies_true, Bool.not_true, Bool.not_false]
  refine ⟨(rheader_spec h hr).mono ?_⟩
  rintro e w1 ⟨rfl, x1⟩
  refine ⟨_, _, _, _, _, rfl, fun w2 n2 => ⟨rfl, HB.can n2, fun w3 s3 => ?_⟩⟩
  obtain ⟨b3, y3⟩ := HB.made n2 s3
  have x3 := x1.trans y3
  have a3 := h.ext x3
  unfold cellO
  cases hh : headT A r with
  | none =>
    have hp : placeT A r i = none := by unfold placeT; rw [hh]
    rw [hp]
    exact ⟨fun h => (by cases h), fun _ => ⟨rfl, x3⟩⟩
  | some hd =>
    rw [hh] at b3
    obtain ⟨h1, h2, h3⟩ := headT_in h.ok hh
    have h2l := h2.le
    have h20 : 0 ≤ hd.l := h2.2.2.1
    refine ⟨fun _ => ⟨fun hi0 => ⟨hd.l, b3.cell 2, fun hle => ?_, fun hlt => ?_⟩, fun hi0 => ?_⟩, fun h => (by cases h)⟩
    · have hp : placeT A r i = none := by unfold placeT; rw [hh]; dsimp only; rw [if_neg (by omega)]
      rw [hp]; exact ⟨rfl, x3⟩
    · have hp : placeT A r i = some (r + i.toNat) := by unfold placeT; rw [hh]; dsimp only; rw [if_pos (by omega)]
      rw [hp]
      have er : IntKind.i64.wrap (IntKind.i64.wrap (r : Int) + i) = ((r + i.toNat : Nat) : Int) := by
        rw [wrap_i64 (n := (r : Int)) (by omega) (by omega), wrap_i64 (by omega) (by omega)]; omega
      refine ⟨⟨some ⟨b, 0, none⟩, A.ws.length, A.ws.length⟩, a3.hd.cell 1, ?_⟩
      rw [er]
      exact ⟨by omega, by show ((r + i.toNat : Nat) : Int) < ((A.ws.length : Nat) : Int); omega, _, rfl, _, by rw [Int.toNat_natCast]; exact a3.wordAt (by omega), rfl, x3⟩
    · have hp : placeT A r i = none := by unfold placeT; rw [hh]; dsimp only; rw [if_neg (by omega)]
      rw [hp]; exact ⟨rfl, x3⟩
theorem rSetCell_spec {w : World} {b g : Nat} {A : Ar} (h : ArW 71 w b g A) {r : Nat} (hr : r < 18446744073709551616) {i : Int} (hi : i ≤ 9223372036854775807) {x : Nat} (hx : x < 18446744073709551616) :
    Calls Try.prog 42 #[.pointer (some ⟨g, 0, none⟩), .int .u64 (r : Nat), .int .i64 i, .int .u64 (x : Nat)] w fun e w' => e = .returned (.int .i64 (setO A r i x).2) ∧ ArW 71 w' b g (setO A r i x).1 ∧ Upd (fun k => k = b) w w' := by
  refine vc_42 _ _ _ _ _ _ ?_
  have hn := h.ok.n; have hlen := h.ok.len
  simp only [eq_self, false_or, or_false, true_and, and_true, decide_eq_true_eq, decide_eq_false_iff_not, gd_st, gd_sf, exists_eq_left', exists_eq_left, Option.some.injEq, Sl.eta, Nat.reduceLeDiff, Int.reduceLE, Int.reduceLT, Int.reduceEq, Int.reduceNe, Nat.reduceMul, Nat.reduceAdd, Nat.reduceSub, Int.toNat_natCast, beq_iff_eq, bne_iff_ne, beq_eq_false_iff_ne, bne_eq_false_iff_eq, pick_and, pick_or, Bool.and_eq_true, Bool.or_eq_true, Bool.and_eq_false_iff, Bool.or_eq_false_iff, ne_eq, not_false_eq_true, Bool.not_eq_true', Bool.not_eq_false', reduceCtorEq, Nat.le_refl, Nat.zero_mul, Nat.mul_one, Nat.zero_add, Int.reduceToNat, ones, one, add_mk, Decidable.not_not, cond_true, cond_false, true_implies, false_implies, implies_true, Bool.not_true, Bool.not_false]
  refine ⟨(rheader_spec h hr).mono ?_⟩
  rintro e w1 ⟨rfl, x1⟩
  refine ⟨_, _, _, _, _, rfl, fun w2 n2 => ⟨rfl, HB.can n2, fun w3 s3 => ?_⟩⟩
  obtain ⟨b3, y3⟩ := HB.made n2 s3
  have x3 := x1.trans y3
  have a3 := h.ext x3
  unfold setO
  cases hh : headT A r with
  | none =>
    have hp : placeT A r i = none := by unfold placeT; rw [hh]
    rw [hp]
    exact ⟨fun h => (by cases h), fun _ => ⟨rfl, a3, x3.toS⟩⟩
  | some hd =>
    rw [hh] at b3
    obtain ⟨h1, h2, h3⟩ := headT_in h.ok hh
    have h2l := h2.le
    have h20 : 0 ≤ hd.l := h2.2.2.1
    refine ⟨fun _ => ⟨fun hi0 => ⟨hd.l, b3.cell 2, fun hle => ?_, fun hlt => ?_⟩, fun hi0 => ?_⟩, fun h => (by cases h)⟩
    · have hp : placeT A r i = none := by unfold placeT; rw [hh]; dsimp only; rw [if_neg (by omega)]
      rw [hp]; exact ⟨rfl, a3, x3.toS⟩
    · have hp : placeT A r i = some (r + i.toNat) := by unfold placeT; rw [hh]; dsimp only; rw [if_pos (by omega)]
      rw [hp]
      have er : IntKind.i64.wrap (IntKind.i64.wrap (r : Int) + i) = ((r + i.toNat : Nat) : Int) := by
        rw [wrap_i64 (n := (r : Int)) (by omega) (by omega), wrap_i64 (by omega) (by omega)]; omega
      refine ⟨⟨some ⟨b, 0, none⟩, A.ws.length, A.ws.length⟩, a3.hd.cell 1, ?_⟩
      rw [er]
      refine ⟨by omega, by show ((r + i.toNat : Nat) : Int) < ((A.ws.length : Nat) : Int); omega, _, rfl, by rw [Int.toNat_natCast]; exact a3.can (by omega), fun w4 s4 => ?_⟩
      obtain ⟨a4, u4⟩ := a3.put (j := r + i.toNat) (by decide) hx s4
      exact ⟨rfl, a4, x3.upd u4⟩
    · have hp : placeT A r i = none := by unfold placeT; rw [hh]; dsimp only; rw [if_neg (by omega)]
      rw [hp]; exact ⟨rfl, a3, x3.toS⟩
theorem rsetWord_spec {w : World} {b g : Nat} {A : Ar} (h : ArW 71 w b g A) (i : Int) {x : Nat} (hx : x < 18446744073709551616) :
    Calls Try.prog 46 #[.pointer (some ⟨g, 0, none⟩), .int .i64 i, .int .u64 (x : Nat)] w fun e w' => e = .returned (.bool (setWO A i x).2) ∧ ArW 71 w' b g (setWO A i x).1 ∧ Upd (fun k => k = b) w w' := by
  refine vc_46 _ _ _ _ _ ?_
  simp only [eq_self, false_or, or_false, true_and, and_true, decide_eq_true_eq, decide_eq_false_iff_not, gd_st, gd_sf, exists_eq_left', exists_eq_left, Option.some.injEq, Sl.eta, Nat.reduceLeDiff, Int.reduceLE, Int.reduceLT, Int.reduceEq, Int.reduceNe, Nat.reduceMul, Nat.reduceAdd, Nat.reduceSub, Int.toNat_natCast, beq_iff_eq, bne_iff_ne, beq_eq_false_iff_ne, bne_eq_false_iff_eq, pick_and, pick_or, Bool.and_eq_true, Bool.or_eq_true, Bool.and_eq_false_iff, Bool.or_eq_false_iff, ne_eq, not_false_eq_true, Bool.not_eq_true', Bool.not_eq_false', reduceCtorEq, Nat.le_refl, Nat.zero_mul, Nat.mul_one, Nat.zero_add, Int.reduceToNat, ones, one, add_mk, Decidable.not_not, cond_true, cond_false, true_implies, false_implies, implies_true, Bool.not_true, Bool.not_false]
  refine ⟨fun h0 => ⟨⟨some ⟨b, 0, none⟩, A.ws.length, A.ws.length⟩, h.hd.cell 1, fun h1 => ?_, fun h1 => ⟨⟨some ⟨b, 0, none⟩, A.ws.length, A.ws.length⟩, h.hd.cell 1, by omega, by omega, _, rfl, h.can (by dsimp only at h1; omega), fun w1 s1 => ?_⟩⟩, fun h0 => ?_⟩
  · unfold setWO; rw [if_neg (by dsimp only at h1; omega)]; exact ⟨rfl, h, .refl _ _⟩
  · unfold setWO; rw [if_pos (by dsimp only at h1; omega)]
    obtain ⟨a1, u1⟩ := h.put (by decide) hx s1
    exact ⟨rfl, a1, u1⟩
  · unfold setWO; rw [if_neg (by omega)]; exact ⟨rfl, h, .refl _ _⟩
/-- an arena that nothing is laid in -/
def newA (n : Nat) : Ar := ⟨n, List.replicate (2 * n) 0, ⟨0, 0⟩, ⟨0, 0⟩, false⟩
theorem newA_ok {n : Nat} (h : n ≤ 65536) : (newA n).Ok :=
  ⟨h, by simp [newA], fun x hx => by rw [List.eq_of_mem_replicate hx]; decide, .inl rfl, ⟨Nat.le_refl _, by simp [newA]⟩, fun h => (by cases h), fun _ => rfl⟩
theorem new_made {t : Nat} {w w1 w2 : World} {n : Nat} (h : n ≤ 65536) (n1 : NewW w (.cells (zrow [.int .u64 0] (2 * n)) 35) w1)
    (n2 : NewW w1 (.cells #[.int .i64 (n : Nat), .slice (some ⟨w.heap.size, 0, none⟩) (2 * n) (2 * n), .int .i64 0, .int .i64 0, .int .i64 0, .int .i64 0, .bool false] t) w2) : ArW t w2 w.heap.size w1.heap.size (newA n) := by
  have k1 := (Blk.new n1).ext n2.ext
  rw [zrow_one] at k1
  refine ⟨newA_ok h, ?_, ?_⟩
  · have := Blk.new n2
    show Blk w2 w1.heap.size t [.int .i64 (n : Nat), .slice (some ⟨w.heap.size, 0, none⟩) (List.replicate (2 * n) 0).length (List.replicate (2 * n) 0).length, .int .i64 0, .int .i64 0, .int .i64 0, .int .i64 0, .bool false]
    rw [List.length_replicate]
    exact this
  · show Blk w2 w.heap.size _ (uv (List.replicate (2 * n) 0))
    rw [show uv (List.replicate (2 * n) 0) = List.replicate (2 * n) (.int .u64 0) by simp [uv]]
    exact k1
theorem new_spec {n : Int} (h1 : n ≤ 9223372036854775807) (w : World) :
    Calls Try.prog 24 #[.int .i64 n] w fun e w' => Ext w w' ∧ ((¬ (0 ≤ n ∧ n ≤ 65536) ∧ e = .returned (.tuple #[.pointer none, .int .i64 1])) ∨
      (∃ (k b g : Nat), n = k ∧ k ≤ 65536 ∧ e = .returned (.tuple #[.pointer (some ⟨g, 0, none⟩), .int .i64 0]) ∧ w.heap.size ≤ b ∧ w.heap.size ≤ g ∧ ArW 91 w' b g (newA k))) := by
  refine vc_24 _ _ _ ?_
  simp only [eq_self, false_or, or_false, true_and, and_true, decide_eq_true_eq, decide_eq_false_iff_not, gd_st, gd_sf, exists_eq_left', exists_eq_left, Option.some.injEq, Sl.eta, Nat.reduceLeDiff, Int.reduceLE, Int.reduceLT, Int.reduceEq, Int.reduceNe, Nat.reduceMul, Nat.reduceAdd, Nat.reduceSub, Int.toNat_natCast, beq_iff_eq, bne_iff_ne, beq_eq_false_iff_ne, bne_eq_false_iff_eq, pick_and, pick_or, Bool.and_eq_true, Bool.or_eq_true, Bool.and_eq_false_iff, Bool.or_eq_false_iff, ne_eq, not_false_eq_true, Bool.not_eq_true', Bool.not_eq_false', reduceCtorEq, Nat.le_refl, Nat.zero_mul, Nat.mul_one, Nat.zero_add, Int.reduceToNat, ones, one, add_mk, Decidable.not_not, cond_true, cond_false, true_implies, false_implies, implies_true, Bool.not_true, Bool.not_false]
  refine ⟨fun h0 => ⟨fun h2 => ⟨.refl _, .inl (by omega)⟩, fun h2 => ?_⟩, fun h0 => ⟨.refl _, .inl (by omega)⟩⟩
  obtain ⟨k, rfl⟩ : ∃ k : Nat, n = k := ⟨n.toNat, by omega⟩
  rw [show IntKind.i64.wrap (2 * (k : Int)) = ((2 * k : Nat) : Int) by rw [wrap_i64 (by omega) (by omega)]; omega]
  refine ⟨⟨by omega, by omega, by omega, by omega⟩, fun w1 n1 => ⟨by simp [len', wr, splice, rep], fun w2 n2 => ⟨n1.ext.trans n2.ext, .inr ⟨k, w.heap.size, w1.heap.size, rfl, by omega, rfl, Nat.le_refl _, n1.ext.size, ?_⟩⟩⟩⟩
  rw [Int.toNat_natCast] at n1 n2
  exact new_made (by omega) n1 n2
theorem rnew_spec {n : Int} (h1 : n ≤ 9223372036854775807) (w : World) :
    Calls Try.prog 31 #[.int .i64 n] w fun e w' => Ext w w' ∧ ((¬ (0 ≤ n ∧ n ≤ 65536) ∧ e = .returned (.tuple #[.pointer none, .int .i64 1])) ∨
      (∃ (k b g : Nat), n = k ∧ k ≤ 65536 ∧ e = .returned (.tuple #[.pointer (some ⟨g, 0, none⟩), .int .i64 0]) ∧ w.heap.size ≤ b ∧ w.heap.size ≤ g ∧ ArW 71 w' b g (newA k))) := by
  refine vc_31 _ _ _ ?_
  simp only [eq_self, false_or, or_false, true_and, and_true, decide_eq_true_eq, decide_eq_false_iff_not, gd_st, gd_sf, exists_eq_left', exists_eq_left, Option.some.injEq, Sl.eta, Nat.reduceLeDiff, Int.reduceLE, Int.reduceLT, Int.reduceEq, Int.reduceNe, Nat.reduceMul, Nat.reduceAdd, Nat.reduceSub, Int.toNat_natCast, beq_iff_eq, bne_iff_ne, beq_eq_false_iff_ne, bne_eq_false_iff_eq, pick_and, pick_or, Bool.and_eq_true, Bool.or_eq_true, Bool.and_eq_false_iff, Bool.or_eq_false_iff, ne_eq, not_false_eq_true, Bool.not_eq_true', Bool.not_eq_false', reduceCtorEq, Nat.le_refl, Nat.zero_mul, Nat.mul_one, Nat.zero_add, Int.reduceToNat, ones, one, add_mk, Decidable.not_not, cond_true, cond_false, true_implies, false_implies, implies_true, Bool.not_true, Bool.not_false]
  refine ⟨fun h0 => ⟨fun h2 => ⟨.refl _, .inl (by omega)⟩, fun h2 => ?_⟩, fun h0 => ⟨.refl _, .inl (by omega)⟩⟩
  obtain ⟨k, rfl⟩ : ∃ k : Nat, n = k := ⟨n.toNat, by omega⟩
  rw [show IntKind.i64.wrap (2 * (k : Int)) = ((2 * k : Nat) : Int) by rw [wrap_i64 (by omega) (by omega)]; omega]
  refine ⟨⟨by omega, by omega, by omega, by omega⟩, fun w1 n1 => ⟨by simp [len', wr, splice, rep], fun w2 n2 => ⟨n1.ext.trans n2.ext, .inr ⟨k, w.heap.size, w1.heap.size, rfl, by omega, rfl, Nat.le_refl _, n1.ext.size, ?_⟩⟩⟩⟩
  rw [Int.toNat_natCast] at n1 n2
  exact new_made (by omega) n1 n2
theorem words_spec {w : World} {b g : Nat} {A : Ar} (h : ArW 91 w b g A) : Calls Try.prog 17 #[.pointer (some ⟨g, 0, none⟩)] w fun e w' => e = .returned (.int .i64 (A.n : Nat)) ∧ w' = w := by
  refine vc_17 _ _ _ ?_
  simp only [eq_self, false_or, or_false, true_and, and_true, decide_eq_true_eq, decide_eq_false_iff_not, gd_st, gd_sf, exists_eq_left', exists_eq_left, Option.some.injEq, Sl.eta, Nat.reduceLeDiff, Int.reduceLE, Int.reduceLT, Int.reduceEq, Int.reduceNe, Nat.reduceMul, Nat.reduceAdd, Nat.reduceSub, Int.toNat_natCast, beq_iff_eq, bne_iff_ne, beq_eq_false_iff_ne, bne_eq_false_iff_eq, pick_and, pick_or, Bool.and_eq_true, Bool.or_eq_true, Bool.and_eq_false_iff, Bool.or_eq_false_iff, ne_eq, not_false_eq_true, Bool.not_eq_true', Bool.not_eq_false', reduceCtorEq, Nat.le_refl, Nat.zero_mul, Nat.mul_one, Nat.zero_add, Int.reduceToNat, ones, one, add_mk, Decidable.not_not, cond_true, cond_false, true_implies, false_implies, implies_true, Bool.not_true, Bool.not_false]
  exact ⟨_, h.hd.cell 0, rfl⟩
theorem used_spec {w : World} {b g : Nat} {A : Ar} (h : ArW 91 w b g A) : Calls Try.prog 13 #[.pointer (some ⟨g, 0, none⟩)] w fun e w' => e = .returned (.int .i64 (A.use.e - A.use.f : Nat)) ∧ Qt w w' := by
  refine vc_13 _ _ _ ?_
  have h1 := h.ok.use1; have h2 := h.ok.useIn; have hn := h.ok.n
  simp only [eq_self, false_or, or_false, true_and, and_true, decide_eq_true_eq, decide_eq_false_iff_not, gd_st, gd_sf, exists_eq_left', exists_eq_left, Option.some.injEq, Sl.eta, Nat.reduceLeDiff, Int.reduceLE, Int.reduceLT, Int.reduceEq, Int.reduceNe, Nat.reduceMul, Nat.reduceAdd, Nat.reduceSub, Int.toNat_natCast, beq_iff_eq, bne_iff_ne, beq_eq_false_iff_ne, bne_eq_false_iff_eq, pick_and, pick_or, Bool.and_eq_true, Bool.or_eq_true, Bool.and_eq_false_iff, Bool.or_eq_false_iff, ne_eq, not_false_eq_true, Bool.not_eq_true', Bool.not_eq_false', reduceCtorEq, Nat.le_refl, Nat.zero_mul, Nat.mul_one, Nat.zero_add, Int.reduceToNat, ones, one, add_mk, Decidable.not_not, cond_true, cond_false, true_implies, false_implies, implies_true, Bool.not_true, Bool.not_false]
  refine ⟨_, h.hd.cell 3, _, h.hd.cell 2, fun w1 q1 => ⟨ri ?_, q1⟩⟩
  rw [wrap_i64 (by omega) (by omega)]; omega
theorem rused_spec {w : World} {b g : Nat} {A : Ar} (h : ArW 71 w b g A) : Calls Try.prog 33 #[.pointer (some ⟨g, 0, none⟩)] w fun e w' => e = .returned (.int .i64 (A.use.e - A.use.f : Nat)) ∧ Qt w w' := by
  refine vc_33 _ _ _ ?_
  have h1 := h.ok.use1; have h2 := h.ok.useIn; have hn := h.ok.n
  simp only [eq_self, false_or, or_false, true_and, and_true, decide_eq_true_eq, decide_eq_false_iff_not, gd_st, gd_sf, exists_eq_left', exists_eq_left, Option.some.injEq, Sl.eta, Nat.reduceLeDiff, Int.reduceLE, Int.reduceLT, Int.reduceEq, Int.reduceNe, Nat.reduceMul, Nat.reduceAdd, Nat.reduceSub, Int.toNat_natCast, beq_iff_eq, bne_iff_ne, beq_eq_false_iff_ne, bne_eq_false_iff_eq, pick_and, pick_or, Bool.and_eq_true, Bool.or_eq_true, Bool.and_eq_false_iff, Bool.or_eq_false_iff, ne_eq, not_false_eq_true, Bool.not_eq_true', Bool.not_eq_false', reduceCtorEq, Nat.le_refl, Nat.zero_mul, Nat.mul_one, Nat.zero_add, Int.reduceToNat, ones, one, add_mk, Decidable.not_not, cond_true, cond_false, true_implies, false_implies, implies_true, Bool.not_true, Bool.not_false]
  refine ⟨_, h.hd.cell 3, _, h.hd.cell 2, fun w1 q1 => ⟨ri ?_, q1⟩⟩
  rw [wrap_i64 (by omega) (by omega)]; omega
theorem left_spec {w : World} {b g : Nat} {A : Ar} (h : ArW 91 w b g A) : Calls Try.prog 26 #[.pointer (some ⟨g, 0, none⟩)] w fun e w' => e = .returned (.int .i64 (A.n - (A.use.e - A.use.f) : Nat)) ∧ Qt w w' := by
  refine vc_26 _ _ _ ?_
  have h1 := h.ok.use1; have h2 := h.ok.useIn; have hn := h.ok.n
  simp only [eq_self, false_or, or_false, true_and, and_true, decide_eq_true_eq, decide_eq_false_iff_not, gd_st, gd_sf, exists_eq_left', exists_eq_left, Option.some.injEq, Sl.eta, Nat.reduceLeDiff, Int.reduceLE, Int.reduceLT, Int.reduceEq, Int.reduceNe, Nat.reduceMul, Nat.reduceAdd, Nat.reduceSub, Int.toNat_natCast, beq_iff_eq, bne_iff_ne, beq_eq_false_iff_ne, bne_eq_false_iff_eq, pick_and, pick_or, Bool.and_eq_true, Bool.or_eq_true, Bool.and_eq_false_iff, Bool.or_eq_false_iff, ne_eq, not_false_eq_true, Bool.not_eq_true', Bool.not_eq_false', reduceCtorEq, Nat.le_refl, Nat.zero_mul, Nat.mul_one, Nat.zero_add, Int.reduceToNat, ones, one, add_mk, Decidable.not_not, cond_true, cond_false, true_implies, false_implies, implies_true, Bool.not_true, Bool.not_false]
  intro w1 q1
  have a1 := h.ext q1.ext
  refine ⟨fun _ => False, _, fun w' u => (a1.ext u).hd.cell 0, ⟨(used_spec a1).mono ?_⟩⟩
  rintro e w2 ⟨rfl, q2⟩
  refine ⟨_, rfl, q2.ext, ri ?_, q1.trans q2⟩
  rw [wrap_i64 (by omega) (by omega)]; omega
end Go.Proofs.Ytggpomialmpgoaa.V
namespace Go.Proofs.Ytggpomialmpgoaa.V
open Go Go.RowKit
set_option linter.unusedVariables false
set_option linter.unusedSimpArgs false
set_option maxRecDepth 100000

/-- words laid over others -/
def layL (l : List Nat) (at_ : Nat) (xs : List Nat) : List Nat := l.take at_ ++ xs ++ l.drop (at_ + xs.length)
theorem layL_len {l : List Nat} {a : Nat} {xs : List Nat} (h : a + xs.length ≤ l.length) : (layL l a xs).length = l.length := by
  unfold layL
  simp only [List.length_append, List.length_take, List.length_drop]
  omega
theorem layL_get {l : List Nat} {a : Nat} {xs : List Nat} (h : a + xs.length ≤ l.length) (j : Nat) : (layL l a xs)[j]? = if j < a then l[j]? else if j < a + xs.length then xs[j - a]? else l[j]? := by
  have ht : (l.take a).length = a := by rw [List.length_take]; omega
  unfold layL
  by_cases h1 : j < a
  · rw [if_pos h1, List.getElem?_append_left (by rw [List.length_append]; omega), List.getElem?_append_left (by omega), List.getElem?_take, if_pos h1]
  · rw [if_neg h1]
    by_cases h2 : j < a + xs.length
    · rw [if_pos h2, List.getElem?_append_left (by rw [List.length_append]; omega), List.getElem?_append_right (by omega), ht]
    · rw [if_neg h2, List.getElem?_append_right (by rw [List.length_append]; omega), List.length_append, ht, List.getElem?_drop]
      congr 1; omega
theorem layL_mem {l : List Nat} {a : Nat} {xs : List Nat} {y : Nat} (h : y ∈ layL l a xs) : y ∈ l ∨ y ∈ xs := by
  unfold layL at h
  simp only [List.mem_append] at h
  rcases h with (h | h) | h
  · exact .inl (List.mem_of_mem_take h)
  · exact .inr h
  · exact .inl (List.mem_of_mem_drop h)
def openT (A : Ar) : Ar × Int := if A.opn = true then (A, 1) else ({ A with opn := true, nxt := ⟨A.n - A.use.f, A.n - A.use.f⟩ }, 0)
theorem openT_ok {A : Ar} (h : A.Ok) : (openT A).1.Ok := by
  unfold openT
  split
  · exact h
  · exact ⟨h.n, h.len, h.lt, h.use, h.use1, fun _ => ⟨rfl, Nat.le_refl _, by dsimp only; omega⟩, fun h => (by cases h)⟩
theorem open_spec {w : World} {b g : Nat} {A : Ar} (h : ArW 91 w b g A) :
    Calls Try.prog 51 #[.pointer (some ⟨g, 0, none⟩)] w fun e w' => e = .returned (.int .i64 (openT A).2) ∧ ArW 91 w' b g (openT A).1 ∧ Upd (fun k => k = g) w w' := by
  refine vc_51 _ _ _ ?_
  have hi := h.ok.useIn
  have hn := h.ok.n
  have hne : g ≠ b := h.hd.ne h.ws (by decide)
  simp only [eq_self, false_or, or_false, true_and, and_true, decide_eq_true_eq, decide_eq_false_iff_not, gd_st, gd_sf, exists_eq_left', exists_eq_left, Option.some.injEq, Sl.eta, Nat.reduceLeDiff, Int.reduceLE, Int.reduceLT, Int.reduceEq, Int.reduceNe, Nat.reduceMul, Nat.reduceAdd, Nat.reduceSub, Int.toNat_natCast, beq_iff_eq, bne_iff_ne, beq_eq_false_iff_ne, bne_eq_false_iff_eq, pick_and, pick_or, Bool.and_eq_true, Bool.or_eq_true, Bool.and_eq_false_iff, Bool.or_eq_false_iff, ne_eq, not_false_eq_true, Bool.not_eq_true', Bool.not_eq_false', reduceCtorEq, Nat.le_refl, Nat.zero_mul, Nat.mul_one, Nat.zero_add, Int.reduceToNat, ones, one, add_mk, Decidable.not_not, cond_true, cond_false, true_implies, false_implies, implies_true, Bool.not_true, Bool.not_false]
  have hok := openT_ok h.ok
  unfold openT at hok ⊢
  refine ⟨A.opn, h.hd.cell 6, fun ho => ?_, fun ho => ?_⟩
  · rw [if_pos ho]; exact ⟨rfl, h, .refl _ _⟩
  · rw [if_neg (by rw [ho]; decide)] at hok ⊢
    refine ⟨_, h.hd.cell 0, _, h.hd.cell 2, ?_⟩
    rw [show IntKind.i64.wrap ((A.n : Int) - (A.use.f : Int)) = ((A.n - A.use.f : Nat) : Int) by rw [wrap_i64 (by omega) (by omega)]; omega]
    intro w1 q1
    have k1 := h.hd.ext q1.ext
    refine ⟨by simp [len', wr, splice, rep], k1.canSet 6 (by simp), fun w2 s2 => ?_⟩
    have k2 := s2.blk1 (i := 6) k1
    refine ⟨by simp [len', wr, splice, rep], k2.canSetN 4 2 (by simp), fun w3 s3 => ?_⟩
    have k3 := s3.blk (i := 4) k2
    simp only [setsL, List.set] at k3
    have u : Upd (fun k => k = g) w w3 := (q1.ext.upd s2.upd).trans s3.upd fun _ _ hh => ⟨hh, hh⟩
    exact ⟨rfl, ⟨hok, k3, h.ws.upd u (Ne.symm hne)⟩, u⟩
theorem begin_spec {w : World} {b g : Nat} {A : Ar} (h : ArW 71 w b g A) :
    Calls Try.prog 67 #[.pointer (some ⟨g, 0, none⟩)] w fun e w' => e = .returned (.int .i64 (openT A).2) ∧ ArW 71 w' b g (openT A).1 ∧ Upd (fun k => k = g) w w' := by
  refine vc_67 _ _ _ ?_
  have hi := h.ok.useIn
  have hn := h.ok.n
  have hne : g ≠ b := h.hd.ne h.ws (by decide)
  simp only [eq_self, false_or, or_false, true_and, and_true, decide_eq_true_eq, decide_eq_false_iff_not, gd_st, gd_sf, exists_eq_left', exists_eq_left, Option.some.injEq, Sl.eta, Nat.reduceLeDiff, Int.reduceLE, Int.reduceLT, Int.reduceEq, Int.reduceNe, Nat.reduceMul, Nat.reduceAdd, Nat.reduceSub, Int.toNat_natCast, beq_iff_eq, bne_iff_ne, beq_eq_false_iff_ne, bne_eq_false_iff_eq, pick_and, pick_or, Bool.and_eq_true, Bool.or_eq_true, Bool.and_eq_false_iff, Bool.or_eq_false_iff, ne_eq, not_false_eq_true, Bool.not_eq_true', Bool.not_eq_false', reduceCtorEq, Nat.le_refl, Nat.zero_mul, Nat.mul_one, Nat.zero_add, Int.reduceToNat, ones, one, add_mk, Decidable.not_not, cond_true, cond_false, true_implies, false_implies, implies_true, Bool.not_true, Bool.not_false]
  have hok := openT_ok h.ok
  unfold openT at hok ⊢
  refine ⟨A.opn, h.hd.cell 6, fun ho => ?_, fun ho => ?_⟩
  · rw [if_pos ho]; exact ⟨rfl, h, .refl _ _⟩
  · rw [if_neg (by rw [ho]; decide)] at hok ⊢
    refine ⟨h.hd.canSet 6 (by simp), fun w1 s1 => ?_⟩
    have k1 := s1.blk1 (i := 6) h.hd
    refine ⟨_, k1.cell 0, _, k1.cell 2, ?_⟩
    rw [show IntKind.i64.wrap ((A.n : Int) - (A.use.f : Int)) = ((A.n - A.use.f : Nat) : Int) by rw [wrap_i64 (by omega) (by omega)]; omega]
    intro w2 q2
    have k2 := k1.ext q2.ext
    refine ⟨by simp [len', wr, splice, rep], by simp [len', wr, splice, rep], k2.canSetN 4 2 (by simp), fun w3 s3 => ?_⟩
    have k3 := s3.blk (i := 4) k2
    simp only [setsL, List.set] at k3
    have u : Upd (fun k => k = g) w w3 := (s1.upd.trans (q2.ext) fun _ _ hh => ⟨hh, not_false⟩).trans s3.upd fun _ _ hh => ⟨hh, hh⟩
    exact ⟨rfl, ⟨hok, k3, h.ws.upd u (Ne.symm hne)⟩, u⟩
/-- an object laid -/
def makeT (A : Ar) (h : Hd) (cs : List Nat) : Ar × Nat × Int :=
  if mayT h = true ∧ (cs.length : Int) = h.l ∧ A.opn = false then
    if A.n - (A.use.e - A.use.f) < cs.length + 2 then (A, 0, 18)
    else ({ A with ws := layL A.ws A.use.e (packT h :: (cs ++ [18446744073709551615 - packT h])), use := ⟨A.use.f, A.use.e + cs.length + 2⟩ }, A.use.e + 1, 0)
  else (A, 0, 1)
theorem makeT_ok {A : Ar} (h : A.Ok) {hd : Hd} {cs : List Nat} (hc : ∀ x ∈ cs, x < 18446744073709551616) : (makeT A hd cs).1.Ok := by
  have h1 := h.use1; have h2 := h.useIn; have h3 := h.len
  unfold makeT
  split
  · rename_i hm
    have m : MayT hd := of_decide_eq_true hm.1
    have hp := pack_lt m
    split
    · exact h
    · refine ⟨h.n, ?_, fun x hx => ?_, h.use, ⟨by dsimp only; omega, by dsimp only; omega⟩, h.nxt, h.nxt0⟩
      · dsimp only; rw [layL_len (by simp; omega)]; exact h.len
      · rcases layL_mem hx with h4 | h4
        · exact h.lt x h4
        · simp only [List.mem_cons, List.mem_append, List.not_mem_nil, or_false] at h4
          rcases h4 with rfl | h4 | rfl
          · omega
          · exact hc x h4
          · omega
  · exact h
end Go.Proofs.Ytggpomialmpgoaa.V
namespace Go.Proofs.Ytggpomialmpgoaa.V
open Go Go.RowKit
set_option linter.unusedVariables false
set_option linter.unusedSimpArgs false
set_option maxRecDepth 100000

theorem Upd.still' {a b c : World} {R : Nat → Prop} (h : Upd R a b) (k : Ext b c) : Upd R a c := h.trans k fun _ _ hn => ⟨hn, not_false⟩
theorem Upd.one' {a b c : World} {R : Nat → Prop} {g : Nat} (h : Upd R a b) (k : Upd (fun i => i = g) b c) (hg : R g) : Upd R a c := h.trans k fun i _ hn => ⟨hn, fun e => hn (e ▸ hg)⟩
theorem lay_steps {l cs : List Nat} {a P N : Nat} (h : a + cs.length + 2 ≤ l.length) :
    ((l.set a P).take (a + 1) ++ (cs ++ (l.set a P).drop (a + 1 + cs.length))).set (a + cs.length + 1) N = layL l a (P :: (cs ++ [N])) := by
  apply List.ext_getElem?
  intro j
  have hl : (P :: (cs ++ [N])).length = cs.length + 2 := by simp
  rw [layL_get (by rw [hl]; omega), hl, List.getElem?_set]
  have ht : ((l.set a P).take (a + 1)).length = a + 1 := by rw [List.length_take, List.length_set]; omega
  by_cases h1 : a + cs.length + 1 = j
  · subst h1
    rw [if_pos rfl, if_pos (show a + cs.length + 1 < (List.take (a + 1) (l.set a P) ++ (cs ++ List.drop (a + 1 + cs.length) (l.set a P))).length by simp only [List.length_append, ht, List.length_drop, List.length_set]; omega), if_neg (show ¬ a + cs.length + 1 < a by omega), if_pos (show a + cs.length + 1 < a + (cs.length + 2) by omega)]
    rw [show a + cs.length + 1 - a = cs.length + 1 by omega, List.getElem?_cons_succ, List.getElem?_append_right (Nat.le_refl _)]
    simp
  · rw [if_neg h1]
    by_cases h2 : j < a + 1
    · rw [List.getElem?_append_left (by omega), List.getElem?_take, if_pos h2, List.getElem?_set]
      by_cases h3 : a = j
      · subst h3
        rw [if_pos rfl, if_pos (by omega), if_neg (by omega), if_pos (by omega), Nat.sub_self]; rfl
      · rw [if_neg h3, if_pos (by omega)]
    · rw [List.getElem?_append_right (by omega), ht, if_neg (by omega)]
      by_cases h3 : j < a + cs.length + 1
      · rw [List.getElem?_append_left (by omega), if_pos (by omega), show j - a = j - (a + 1) + 1 by omega, List.getElem?_cons_succ, List.getElem?_append_left (by omega)]
      · rw [List.getElem?_append_right (by omega), if_neg (by omega), List.getElem?_drop, show a + 1 + cs.length + (j - (a + 1) - cs.length) = j by omega, List.getElem?_set_ne (by omega)]
theorem make_spec {w : World} {b g : Nat} {A : Ar} (h : ArW 91 w b g A) (hd : Hd) {s : Sl} {cs : List Nat} (hs : Rd w 1 s (uv cs)) (hoff : s.off fun k => k = b ∨ k = g) (hm : cs.length ≤ 1000000000000000) (hc : ∀ x ∈ cs, x < 18446744073709551616) :
    Calls Try.prog 30 #[.pointer (some ⟨g, 0, none⟩), hdV hd, .slice s.a s.n s.c] w fun e w' => e = .returned (.tuple #[.int .u64 ((makeT A hd cs).2.1 : Nat), .int .i64 (makeT A hd cs).2.2]) ∧ ArW 91 w' b g (makeT A hd cs).1 ∧ Upd (fun k => k = b ∨ k = g) w w' := by
  refine vc_30 _ _ _ _ _ _ _ _ ?_
  have hi := h.ok.useIn; have h1 := h.ok.use1
  have hn := h.ok.n; have hlen := h.ok.len
  have hne : g ≠ b := h.hd.ne h.ws (by decide)
  have hsn := hs.lenu
  have hok := makeT_ok h.ok (hd := hd) hc
  have hb0 := h.ws.lt; have hg0 := h.hd.lt
  simp only [eq_self, false_or, or_false, true_and, and_true, decide_eq_true_eq, decide_eq_false_iff_not, gd_st, gd_sf, exists_eq_left', exists_eq_left, Option.some.injEq, Sl.eta, Nat.reduceLeDiff, Int.reduceLE, Int.reduceLT, Int.reduceEq, Int.reduceNe, Nat.reduceMul, Nat.reduceAdd, Nat.reduceSub, Int.toNat_natCast, beq_iff_eq, bne_iff_ne, beq_eq_false_iff_ne, bne_eq_false_iff_eq, pick_and, pick_or, Bool.and_eq_true, Bool.or_eq_true, Bool.and_eq_false_iff, Bool.or_eq_false_iff, ne_eq, not_false_eq_true, Bool.not_eq_true', Bool.not_eq_false', reduceCtorEq, Nat.le_refl, Nat.zero_mul, Nat.mul_one, Nat.zero_add, Int.reduceToNat, ones, one, add_mk, Decidable.not_not, cond_true, cond_false, true_implies, false_implies, implies_true, Bool.not_true, Bool.not_false]
  intro w1 n1
  have k1 := Blk.new n1
  simp only [k1.cell, List.getElem?_cons_zero, List.getElem?_cons_succ, ex_sl, Value.int.injEq, Value.bool.injEq, Value.pointer.injEq, Value.string.injEq, eq_self, false_or, or_false, true_and, and_true, decide_eq_true_eq, decide_eq_false_iff_not, gd_st, gd_sf, exists_eq_left', exists_eq_left, Option.some.injEq, Sl.eta, Nat.reduceLeDiff, Int.reduceLE, Int.reduceLT, Int.reduceEq, Int.reduceNe, Nat.reduceMul, Nat.reduceAdd, Nat.reduceSub, Int.toNat_natCast, beq_iff_eq, bne_iff_ne, beq_eq_false_iff_ne, bne_eq_false_iff_eq, pick_and, pick_or, Bool.and_eq_true, Bool.or_eq_true, Bool.and_eq_false_iff, Bool.or_eq_false_iff, ne_eq, not_false_eq_true, Bool.not_eq_true', Bool.not_eq_false', reduceCtorEq, Nat.le_refl, Nat.zero_mul, Nat.mul_one, Nat.zero_add, Int.reduceToNat, ones, one, add_mk, Decidable.not_not, cond_true, cond_false, true_implies, false_implies, implies_true, Bool.not_true, Bool.not_false]
  refine ⟨_, _, _, _, rfl, ⟨rfl, rfl, rfl, rfl⟩, ⟨(pack_spec hd w1).mono ?_⟩⟩
  rintro e w2 ⟨rfl, x2⟩
  have x02 := n1.ext.trans x2
  have a2 := h.ext x02
  have k2 := k1.ext x2
  have bad : ∀ w', Ext w w' → (mayT hd = true ∧ (cs.length : Int) = hd.l ∧ A.opn = false → False) → Ending.returned (.tuple #[.int .u64 0, .int .i64 1]) = .returned (.tuple #[.int .u64 ((makeT A hd cs).2.1 : Nat), .int .i64 (makeT A hd cs).2.2]) ∧ ArW 91 w' b g (makeT A hd cs).1 ∧ Upd (fun k => k = b ∨ k = g) w w' := by
    intro w' x' hno
    unfold makeT
    rw [if_neg hno]
    exact ⟨rfl, h.ext x', x'.toS⟩
  by_cases hm' : mayT hd = true
  rotate_left
  · have e2 : (packO hd).2 = false := by unfold packO; rw [if_neg hm']
    rw [e2]
    exact ⟨_, _, rfl, fun h => (by cases h), fun _ => bad w2 x02 fun hh => hm' hh.1⟩
  have e2 : packO hd = (packT hd, true) := by unfold packO; rw [if_pos hm']
  have m : MayT hd := of_decide_eq_true hm'
  have ml := m.le
  have m0 : 0 ≤ hd.l := m.2.2.1
  have hp := pack_lt m
  rw [e2]
  dsimp only
  refine ⟨_, _, rfl, fun _ => ⟨hd.l, k2.cell 2, fun hcl => ⟨A.opn, a2.hd.cell 6, fun ho => bad w2 x02 fun hh => (by rw [hh.2.2] at ho; cases ho), fun ho => ?_⟩, fun hcl => bad w2 x02 fun hh => hcl (by rw [← hsn]; exact hh.2.1)⟩, fun h => (by cases h)⟩
  intro w3 q3
  have x03 := x02.trans q3.ext
  have a3 := h.ext x03
  have k3 := k2.ext q3.ext
  refine ⟨fun _ => False, hd.l, fun w' u => (k3.ext u).cell 2, ⟨(left_spec a3).mono ?_⟩⟩
  rintro e w4 ⟨rfl, q4⟩
  have x04 := x03.trans q4.ext
  have a4 := h.ext x04
  have k4 := k3.ext q4.ext
  rw [wrap_i64 (n := hd.l + 2) (by omega) (by omega)]
  have hif : mayT hd = true ∧ (cs.length : Int) = hd.l ∧ A.opn = false := ⟨hm', by omega, ho⟩
  unfold makeT at hok ⊢
  rw [if_pos hif] at hok ⊢
  refine ⟨_, rfl, q4.ext, fun hlt => ?_, fun hge => ?_⟩
  · rw [if_pos (by omega)]
    exact ⟨rfl, a4, x04.toS⟩
  have hlt2 : ¬ A.n - (A.use.e - A.use.f) < cs.length + 2 := by omega
  rw [if_neg hlt2] at hok ⊢
  obtain ⟨len, hlen'⟩ : ∃ n : Nat, hd.l = n := ⟨hd.l.toNat, by omega⟩
  have ecs : cs.length = len := by omega
  have sl : Sl := ⟨some ⟨b, 0, none⟩, A.ws.length, A.ws.length⟩
  refine ⟨_, a4.hd.cell 3, ⟨some ⟨b, 0, none⟩, A.ws.length, A.ws.length⟩, a4.hd.cell 1, by omega, by dsimp only; omega, _, rfl, a4.can (by omega), fun w5 s5 => ?_⟩
  rw [Int.toNat_natCast] at s5
  obtain ⟨a5, u5⟩ := a4.put (x := packT hd) (by decide) (by omega) s5
  have k5 := k4.upd u5 (by omega)
  have hs5 : Rd w5 1 s (uv cs) := (hs.ext x04).upd u5 fun p hp e => hoff p hp (.inl e)
  have hl5 : (A.put A.use.e (packT hd)).ws.length = A.ws.length := List.length_set
  rw [wrap_i64 (n := (A.use.e : Int) + 1) (by omega) (by omega), show ((A.use.e : Int) + 1).toNat = A.use.e + 1 by omega]
  refine ⟨⟨some ⟨b, 0, none⟩, A.ws.length, A.ws.length⟩, by rw [← hl5]; exact a5.hd.cell 1, by omega, by dsimp only; omega, ?_⟩
  dsimp only
  rw [if_neg (show ¬ A.ws.length = A.use.e + 1 by omega)]
  simp only [Option.map_some, add_mk, Nat.zero_add]
  obtain ⟨w6, hr6, b6, u6, z6⟩ := run_copy (P := Try.prog) (t1 := 38) (t2 := 38) (ty := 3) (dn := A.ws.length - (A.use.e + 1)) (dc := A.ws.length - (A.use.e + 1)) tab_ok (by rfl) (by rfl) (o := A.use.e + 1) a5.ws (by rw [uv_length, hl5]; omega) hs5 (uv_ones _)
  have emin : min s.n (A.ws.length - (A.use.e + 1)) = cs.length := by omega
  rw [emin] at b6
  have e6 : (uv (A.put A.use.e (packT hd)).ws).take (A.use.e + 1) ++ ((uv cs).take cs.length ++ (uv (A.put A.use.e (packT hd)).ws).drop (A.use.e + 1 + cs.length)) =
      uv ((A.ws.set A.use.e (packT hd)).take (A.use.e + 1) ++ (cs ++ (A.ws.set A.use.e (packT hd)).drop (A.use.e + 1 + cs.length))) := by
    rw [List.take_of_length_le (l := uv cs) (by simp)]
    simp only [uv, Ar.put, List.map_append, List.map_take, List.map_drop]
  rw [e6] at b6
  have hd5 : Blk w5 g 91 [.int .i64 (A.n : Nat), .slice (some ⟨b, 0, none⟩) A.ws.length A.ws.length, .int .i64 (A.use.f : Nat), .int .i64 (A.use.e : Nat), .int .i64 (A.nxt.f : Nat), .int .i64 (A.nxt.e : Nat), .bool A.opn] := by
    rw [← hl5]; exact a5.hd
  have hd6 := hd5.upd u6 hne
  have k6 := k5.upd u6 (by omega)
  refine ⟨_, w6, hr6, fun w7 q7 => ?_⟩
  have hd7 := hd6.ext q7.ext
  have k7 := k6.ext q7.ext
  have b7 := b6.ext q7.ext
  refine ⟨fun _ => False, ⟨some ⟨b, 0, none⟩, A.ws.length, A.ws.length⟩, fun w' u => (hd7.ext u).cell 1, hd.l, fun w' u => (k7.ext u).cell 2, ?_⟩
  rw [hlen', wrap_i64 (n := (A.use.e : Int) + (len : Int)) (by omega) (by omega), wrap_i64 (n := (A.use.e : Int) + (len : Int) + 1) (by omega) (by omega), show ((A.use.e : Int) + (len : Int) + 1).toNat = A.use.e + cs.length + 1 by omega, not_u64 (by omega)]
  have hl6 : ((A.ws.set A.use.e (packT hd)).take (A.use.e + 1) ++ (cs ++ (A.ws.set A.use.e (packT hd)).drop (A.use.e + 1 + cs.length))).length = A.ws.length := by
    simp only [List.length_append, List.length_take, List.length_drop, List.length_set]; omega
  refine ⟨by omega, by dsimp only; omega, _, rfl, ?_, fun w8 s8 => ?_⟩
  · rw [add_mk, Nat.zero_add]
    exact b7.canSet _ (by rw [uv_length, hl6]; omega)
  rw [add_mk, Nat.zero_add] at s8
  have b8 := s8.blk1 b7
  rw [uv_set, lay_steps (by omega)] at b8
  have hd8 := hd7.upd s8.upd hne
  have k8 := k7.upd s8.upd (by dsimp only; omega)
  intro w9 q9
  have hd9 := hd8.ext q9.ext
  have k9 := k8.ext q9.ext
  refine ⟨fun _ => False, _, fun w' u => (hd9.ext u).cell 3, hd.l, fun w' u => (k9.ext u).cell 2, hd9.canSet 3 (by simp), fun w10 s10 => ?_⟩
  rw [hlen', wrap_i64 (n := (len : Int) + 2) (by omega) (by omega), wrap_i64 (n := (A.use.e : Int) + ((len : Int) + 2)) (by omega) (by omega), show (A.use.e : Int) + ((len : Int) + 2) = ((A.use.e + cs.length + 2 : Nat) : Int) by omega] at s10
  have hd10 := s10.blk1 (i := 3) hd9
  have b10 := (b8.ext q9.ext).upd s10.upd (Ne.symm hne)
  have er : IntKind.u64.wrap (IntKind.u64.wrap (A.use.e : Int) + 1) = ((A.use.e + 1 : Nat) : Int) := by
    rw [wrap_u64 (n := (A.use.e : Int)) (by omega) (by omega), wrap_u64 (by omega) (by omega)]; omega
  rw [er]
  have hll : (layL A.ws A.use.e (packT hd :: (cs ++ [18446744073709551615 - packT hd]))).length = A.ws.length := layL_len (by simp; omega)
  refine ⟨rfl, ⟨hok, ?_, b10⟩, ?_⟩
  · dsimp only
    rw [hll]
    exact hd10
  · have U1 : Upd (fun k => k = b ∨ k = g) w w5 := x04.upd (u5.mono fun k _ hn e => hn (.inl e))
    have U2 := (U1.one' u6 (.inl rfl)).still' q7.ext
    have U3 := (U2.one' s8.upd (.inl rfl)).still' q9.ext
    exact U3.one' s10.upd (.inr rfl)
end Go.Proofs.Ytggpomialmpgoaa.V
namespace Go.Proofs.Ytggpomialmpgoaa.V
open Go Go.RowKit
set_option linter.unusedVariables false
set_option linter.unusedSimpArgs false
set_option maxRecDepth 100000

def Ar.lay (A : Ar) (a : Nat) (xs : List Nat) : Ar := { A with ws := layL A.ws a xs }
theorem Ar.Ok.lay {A : Ar} (h : A.Ok) {a : Nat} {xs : List Nat} (hl : a + xs.length ≤ A.ws.length) (hx : ∀ x ∈ xs, x < 18446744073709551616) : (A.lay a xs).Ok :=
  ⟨h.n, by show (layL A.ws a xs).length = _; rw [layL_len hl]; exact h.len, fun y hy => by
    rcases layL_mem hy with h1 | h1
    · exact h.lt y h1
    · exact hx y h1, h.use, h.use1, h.nxt, h.nxt0⟩
theorem layL_nil (l : List Nat) (a : Nat) : layL l a [] = l := by simp [layL]
theorem layL_snoc {l xs : List Nat} {a x : Nat} (h : a + xs.length + 1 ≤ l.length) : (layL l a xs).set (a + xs.length) x = layL l a (xs ++ [x]) := by
  apply List.ext_getElem?
  intro j
  rw [layL_get (by simp; omega), List.getElem?_set, layL_len (by omega), layL_get (by omega)]
  simp only [List.length_append, List.length_cons, List.length_nil]
  by_cases h1 : a + xs.length = j
  · subst h1
    rw [if_pos rfl, if_pos (by omega), if_neg (by omega), if_pos (by omega), List.getElem?_append_right (by omega)]
    simp
  · rw [if_neg h1]
    by_cases h2 : j < a
    · rw [if_pos h2, if_pos h2]
    · rw [if_neg h2, if_neg h2]
      by_cases h3 : j < a + xs.length
      · rw [if_pos h3, if_pos (by omega), List.getElem?_append_left (by omega)]
      · rw [if_neg h3, if_neg (by omega)]
theorem lay_spec {w : World} {b g : Nat} {A : Ar} (h : ArW 71 w b g A) (s : Sp) {x : Sl} {xs : List Nat} (hx : Rd w 1 x (uv xs)) (hoff : ∀ p, x.a = some p → p.block ≠ b) (hfit : s.e + xs.length ≤ A.ws.length) (hxl : ∀ y ∈ xs, y < 18446744073709551616) :
    Calls Try.prog 66 #[.pointer (some ⟨g, 0, none⟩), .agg #[.int .i64 (s.f : Nat), .int .i64 (s.e : Nat)], .slice x.a x.n x.c] w fun e w' =>
      e = .returned (.tuple #[.agg #[.int .i64 (s.f : Nat), .int .i64 (s.e + xs.length : Nat)], .int .u64 (s.e + 1 : Nat)]) ∧ ArW 71 w' b g (A.lay s.e xs) ∧ Upd (fun k => k = b) w w' := by
  refine vc_66 _ _ _ _ _ _ ?_
  have hn := h.ok.n; have hlen := h.ok.len
  have hne : g ≠ b := h.hd.ne h.ws (by decide)
  have hb0 := h.ws.lt; have hg0 := h.hd.lt
  have hxn := hx.lenu
  simp only [eq_self, false_or, or_false, true_and, and_true, decide_eq_true_eq, decide_eq_false_iff_not, gd_st, gd_sf, exists_eq_left', exists_eq_left, Option.some.injEq, Sl.eta, Nat.reduceLeDiff, Int.reduceLE, Int.reduceLT, Int.reduceEq, Int.reduceNe, Nat.reduceMul, Nat.reduceAdd, Nat.reduceSub, Int.toNat_natCast, beq_iff_eq, bne_iff_ne, beq_eq_false_iff_ne, bne_eq_false_iff_eq, pick_and, pick_or, Bool.and_eq_true, Bool.or_eq_true, Bool.and_eq_false_iff, Bool.or_eq_false_iff, ne_eq, not_false_eq_true, Bool.not_eq_true', Bool.not_eq_false', reduceCtorEq, Nat.le_refl, Nat.zero_mul, Nat.mul_one, Nat.zero_add, Int.reduceToNat, ones, one, add_mk, Decidable.not_not, cond_true, cond_false, true_implies, false_implies, implies_true, Bool.not_true, Bool.not_false]
  intro w1 n1 w2 n2
  have k2 := (Blk.new n1).ext n2.ext
  have j2 := Blk.new n2
  have x02 := n1.ext.trans n2.ext
  have z1 := n1.ext.size
  have y1 := (Blk.new n1).lt
  refine ⟨fun n w' => 0 ≤ n ∧ n ≤ xs.length ∧ ArW 71 w' b g (A.lay s.e (xs.take n.toNat)) ∧ Upd (fun k => k = b) w2 w', fun n _ => (xs.length - n).toNat, ⟨by omega, by omega, ?_, .refl _ _⟩, ?_⟩
  · rw [show xs.take (0 : Int).toNat = [] from rfl]
    unfold Ar.lay
    rw [layL_nil]
    exact h.ext x02
  rintro _ n w3 ⟨m0, m1, a3, u3⟩
  have k3 := k2.upd u3 (by omega)
  have j3 := j2.upd u3 (by omega)
  obtain ⟨n, rfl⟩ : ∃ k : Nat, n = k := ⟨n.toNat, by omega⟩
  rw [Int.toNat_natCast] at a3
  have htl : (xs.take n).length = n := by rw [List.length_take]; omega
  have hl3 : (A.lay s.e (xs.take n)).ws.length = A.ws.length := layL_len (by omega)
  refine ⟨fun hlt => ?_, fun hge => ?_⟩
  · intro w4 q4
    have a4 := a3.ext q4.ext
    have k4 := k3.ext q4.ext
    obtain ⟨p, y, hp, hy, hcy⟩ := ((hx.ext x02).upd u3 fun p hp e => hoff p hp e).word n (by omega)
    rw [Nat.mul_one] at hcy
    have hyl := hxl y (List.mem_of_getElem? hy)
    refine ⟨fun _ => False, ⟨some ⟨b, 0, none⟩, (A.lay s.e (xs.take n)).ws.length, (A.lay s.e (xs.take n)).ws.length⟩, fun w' u => (a4.ext u).hd.cell 1, _, fun w' u => (k4.ext u).cell 1, m0, hlt, p, hp, _, fun w' u => Upd.cell u (Upd.cell q4.ext hcy not_false) not_false, ?_⟩
    rw [wrap_i64 (n := (s.e : Int) + (n : Int)) (by omega) (by omega), show (s.e : Int) + (n : Int) = ((s.e + n : Nat) : Int) by omega, Int.toNat_natCast]
    refine ⟨by omega, by dsimp only; omega, _, rfl, a4.can (by omega), fun w5 s5 => ?_⟩
    obtain ⟨a5, u5⟩ := a4.put (by decide) hyl s5
    refine ⟨⟨by (first | (rw [wrap_i64 (by omega) (by omega)]; omega) | (dsimp only; rw [wrap_i64 (by omega) (by omega)]; omega) | (dsimp only; omega)), by (first | (rw [wrap_i64 (by omega) (by omega)]; omega) | (dsimp only; rw [wrap_i64 (by omega) (by omega)]; omega) | (dsimp only; omega)), ?_, (u3.still' q4.ext).one' u5 rfl⟩, by (first | (rw [wrap_i64 (by omega) (by omega)]; omega) | (dsimp only; rw [wrap_i64 (by omega) (by omega)]; omega) | (dsimp only; omega))⟩
    rw [wrap_i64 (by omega) (by omega), show ((n : Int) + 1).toNat = n + 1 by omega, List.take_add_one, hy]
    have e : (A.lay s.e (xs.take n)).put (s.e + n) y = A.lay s.e (xs.take n ++ (some y).toList) := by
      unfold Ar.lay Ar.put
      dsimp only
      have := layL_snoc (l := A.ws) (xs := xs.take n) (a := s.e) (x := y) (by omega)
      rw [htl] at this
      rw [this]; rfl
    rw [← e]
    exact a5
  · have hnx : n = xs.length := by omega
    subst hnx
    rw [List.take_of_length_le (Nat.le_refl _)] at a3
    simp only [k3.cell, List.getElem?_cons_zero, List.getElem?_cons_succ, ex_sl, Value.int.injEq, Value.bool.injEq, Value.pointer.injEq, Value.string.injEq, eq_self, false_or, or_false, true_and, and_true, decide_eq_true_eq, decide_eq_false_iff_not, gd_st, gd_sf, exists_eq_left', exists_eq_left, Option.some.injEq, Sl.eta, Nat.reduceLeDiff, Int.reduceLE, Int.reduceLT, Int.reduceEq, Int.reduceNe, Nat.reduceMul, Nat.reduceAdd, Nat.reduceSub, Int.toNat_natCast, beq_iff_eq, bne_iff_ne, beq_eq_false_iff_ne, bne_eq_false_iff_eq, pick_and, pick_or, Bool.and_eq_true, Bool.or_eq_true, Bool.and_eq_false_iff, Bool.or_eq_false_iff, ne_eq, not_false_eq_true, Bool.not_eq_true', Bool.not_eq_false', reduceCtorEq, Nat.le_refl, Nat.zero_mul, Nat.mul_one, Nat.zero_add, Int.reduceToNat, ones, one, add_mk, Decidable.not_not, cond_true, cond_false, true_implies, false_implies, implies_true, Bool.not_true, Bool.not_false]
    rw [wrap_i64 (n := (s.e : Int) + (x.n : Int)) (by omega) (by omega), show (s.e : Int) + (x.n : Int) = ((s.e + xs.length : Nat) : Int) by omega]
    refine ⟨k3.canSet 1 (by simp), fun w4 s4 => ?_⟩
    have k4 := s4.blk1 (i := 1) k3
    have j4 := j3.upd s4.upd (by dsimp only; omega)
    refine ⟨_, _, rfl, ⟨k4.cell 0, k4.cell 1⟩, rfl, j4.canSetN 0 2 (by simp), fun w5 s5 => ?_⟩
    have j5 := s5.blk (i := 0) j4
    simp only [setsL, List.set] at j5
    have er : IntKind.u64.wrap (IntKind.u64.wrap (s.e : Int) + 1) = ((s.e + 1 : Nat) : Int) := by
      rw [wrap_u64 (n := (s.e : Int)) (by omega) (by omega), wrap_u64 (by omega) (by omega)]; omega
    rw [er]
    refine ⟨_, _, rfl, ⟨j5.cell 0, j5.cell 1⟩, rfl, (a3.upd s4.upd (by dsimp only; omega) (by dsimp only; omega)).upd s5.upd (by dsimp only; omega) (by dsimp only; omega), ?_⟩
    have U : Upd (fun k => k = b) w w3 := x02.upd u3
    refine (U.trans s4.upd (R := fun k => k = b ∨ w.heap.size ≤ k) fun i hi hn => ⟨fun e => hn (.inl e), fun e => hn (.inr (by dsimp only at e; omega))⟩).trans s5.upd (fun i hi hn => ⟨fun e => ?_, fun e => ?_⟩)
    · rcases e with e | e
      · exact hn e
      · omega
    · dsimp only at e; omega
end Go.Proofs.Ytggpomialmpgoaa.V
namespace Go.Proofs.Ytggpomialmpgoaa.V
open Go Go.RowKit
set_option linter.unusedVariables false
set_option linter.unusedSimpArgs false
set_option maxRecDepth 100000

/-- one word more behind words of the call's own -/
theorem app_word {w : World} {W0 g : Nat} {r : Sl} {xs : List Nat} {x : Nat} (o : Own w W0 35 1 r (uv xs)) (hb : Blk w g 35 [.int .u64 (x : Nat)]) (hm : r.n ≤ 1000000) (hB : W0 ≤ w.heap.size) :
    ∃ r' w', Runs Try.prog (Builtin.append_ #[38, 38] 38 #[.slice r.a r.n r.c, .slice (some ⟨g, 0, none⟩) 1 1]) w (.slice r'.a r'.n r'.c) w' ∧ r'.n = r.n + 1 ∧ Own w' W0 35 1 r' (uv (xs ++ [x])) ∧ Upd (fun k => ∃ p, r.a = some p ∧ k = p.block) w w' := by
  have rd : Rd w 1 ⟨some ⟨g, 0, none⟩, 1, 1⟩ (uv [x]) := hb.rd (z := 1) (o := 0) (n := 1) (c := 1) (by simp)
  obtain ⟨r', w', h1, h2, h3, h4, _⟩ := o.append (t := 38) (ty := 38) tab_ok (by rfl) (by rfl) (by decide) rd (uv_ones _) (by dsimp only; omega) (by dsimp only; omega) hB
  exact ⟨r', w', h1, h2, by rw [uv_append]; exact h3, h4⟩
theorem rmake_spec {w : World} {b g : Nat} {A : Ar} (h : ArW 71 w b g A) (hd : Hd) {s : Sl} {cs : List Nat} (hs : Rd w 1 s (uv cs)) (hm : cs.length ≤ 1000000000000000) (hc : ∀ x ∈ cs, x < 18446744073709551616) :
    Calls Try.prog 61 #[.pointer (some ⟨g, 0, none⟩), hdV hd, .slice s.a s.n s.c] w fun e w' => e = .returned (.tuple #[.int .u64 ((makeT A hd cs).2.1 : Nat), .int .i64 (makeT A hd cs).2.2]) ∧ ArW 71 w' b g (makeT A hd cs).1 ∧ Upd (fun k => k = b ∨ k = g) w w' := by
  refine vc_61 _ _ _ _ _ _ _ _ ?_
  have hi := h.ok.useIn; have h1 := h.ok.use1
  have hn := h.ok.n; have hlen := h.ok.len
  have hne : g ≠ b := h.hd.ne h.ws (by decide)
  have hsn := hs.lenu
  have hok := makeT_ok h.ok (hd := hd) hc
  have hb0 := h.ws.lt; have hg0 := h.hd.lt
  simp only [eq_self, false_or, or_false, true_and, and_true, decide_eq_true_eq, decide_eq_false_iff_not, gd_st, gd_sf, exists_eq_left', exists_eq_left, Option.some.injEq, Sl.eta, Nat.reduceLeDiff, Int.reduceLE, Int.reduceLT, Int.reduceEq, Int.reduceNe, Nat.reduceMul, Nat.reduceAdd, Nat.reduceSub, Int.toNat_natCast, beq_iff_eq, bne_iff_ne, beq_eq_false_iff_ne, bne_eq_false_iff_eq, pick_and, pick_or, Bool.and_eq_true, Bool.or_eq_true, Bool.and_eq_false_iff, Bool.or_eq_false_iff, ne_eq, not_false_eq_true, Bool.not_eq_true', Bool.not_eq_false', reduceCtorEq, Nat.le_refl, Nat.zero_mul, Nat.mul_one, Nat.zero_add, Int.reduceToNat, ones, one, add_mk, Decidable.not_not, cond_true, cond_false, true_implies, false_implies, implies_true, Bool.not_true, Bool.not_false]
  intro w1 n1
  have k1 := Blk.new n1
  simp only [k1.cell, List.getElem?_cons_zero, List.getElem?_cons_succ, ex_sl, Value.int.injEq, Value.bool.injEq, Value.pointer.injEq, Value.string.injEq, eq_self, false_or, or_false, true_and, and_true, decide_eq_true_eq, decide_eq_false_iff_not, gd_st, gd_sf, exists_eq_left', exists_eq_left, Option.some.injEq, Sl.eta, Nat.reduceLeDiff, Int.reduceLE, Int.reduceLT, Int.reduceEq, Int.reduceNe, Nat.reduceMul, Nat.reduceAdd, Nat.reduceSub, Int.toNat_natCast, beq_iff_eq, bne_iff_ne, beq_eq_false_iff_ne, bne_eq_false_iff_eq, pick_and, pick_or, Bool.and_eq_true, Bool.or_eq_true, Bool.and_eq_false_iff, Bool.or_eq_false_iff, ne_eq, not_false_eq_true, Bool.not_eq_true', Bool.not_eq_false', reduceCtorEq, Nat.le_refl, Nat.zero_mul, Nat.mul_one, Nat.zero_add, Int.reduceToNat, ones, one, add_mk, Decidable.not_not, cond_true, cond_false, true_implies, false_implies, implies_true, Bool.not_true, Bool.not_false]
  refine ⟨_, _, _, _, rfl, ⟨rfl, rfl, rfl, rfl⟩, ⟨(rpack_spec hd w1).mono ?_⟩⟩
  rintro e w2 ⟨rfl, x2⟩
  have x02 := n1.ext.trans x2
  have a2 := h.ext x02
  have k2 := k1.ext x2
  have bad : ∀ w', Ext w w' → (mayT hd = true ∧ (cs.length : Int) = hd.l ∧ A.opn = false → False) → Ending.returned (.tuple #[.int .u64 0, .int .i64 1]) = .returned (.tuple #[.int .u64 ((makeT A hd cs).2.1 : Nat), .int .i64 (makeT A hd cs).2.2]) ∧ ArW 71 w' b g (makeT A hd cs).1 ∧ Upd (fun k => k = b ∨ k = g) w w' := by
    intro w' x' hno
    unfold makeT
    rw [if_neg hno]
    exact ⟨rfl, h.ext x', x'.toS⟩
  by_cases hm' : mayT hd = true
  rotate_left
  · have e2 : (packO hd).2 = false := by unfold packO; rw [if_neg hm']
    rw [e2]
    exact ⟨_, _, rfl, fun h => (by cases h), fun _ => bad w2 x02 fun hh => hm' hh.1⟩
  have e2 : packO hd = (packT hd, true) := by unfold packO; rw [if_pos hm']
  have m : MayT hd := of_decide_eq_true hm'
  have ml := m.le
  have m0 : 0 ≤ hd.l := m.2.2.1
  have hp := pack_lt m
  rw [e2]
  dsimp only
  refine ⟨_, _, rfl, fun _ => ⟨hd.l, k2.cell 2, fun hcl => ⟨A.opn, a2.hd.cell 6, fun ho => bad w2 x02 fun hh => (by rw [hh.2.2] at ho; cases ho), fun ho => ?_⟩, fun hcl => bad w2 x02 fun hh => hcl (by rw [← hsn]; exact hh.2.1)⟩, fun h => (by cases h)⟩
  intro w3 q3
  have x03 := x02.trans q3.ext
  have a3 := h.ext x03
  have k3 := k2.ext q3.ext
  refine ⟨fun _ => False, hd.l, fun w' u => (k3.ext u).cell 2, _, fun w' u => (a3.ext u).hd.cell 0, ⟨(rused_spec a3).mono ?_⟩⟩
  rintro e w4 ⟨rfl, q4⟩
  have x04 := x03.trans q4.ext
  have a4 := h.ext x04
  have k4 := k3.ext q4.ext
  rw [wrap_i64 (n := hd.l + 2) (by omega) (by omega)]
  have hif : mayT hd = true ∧ (cs.length : Int) = hd.l ∧ A.opn = false := ⟨hm', by omega, ho⟩
  unfold makeT at hok ⊢
  rw [if_pos hif] at hok ⊢
  refine ⟨_, rfl, q4.ext, ?_⟩
  rw [wrap_i64 (n := (A.n : Int) - ((A.use.e - A.use.f : Nat) : Int)) (by omega) (by omega)]
  refine ⟨fun hlt => ?_, fun hge => ?_⟩
  · rw [if_pos (by omega)]
    exact ⟨rfl, a4, x04.toS⟩
  have hlt2 : ¬ A.n - (A.use.e - A.use.f) < cs.length + 2 := by omega
  rw [if_neg hlt2] at hok ⊢
  intro w5 n5
  have o5 : Own w5 w4.heap.size 35 1 ⟨some ⟨w4.heap.size, 0, none⟩, 1, 1⟩ (uv [packT hd]) := Own.lit (n := 1) n5 (Nat.le_refl _) rfl (by omega)
  have x05 := x04.trans n5.ext
  obtain ⟨r6, w6, hr6, hn6, o6, u6, _⟩ := o5.append (t := 38) (ty := 38) tab_ok (by rfl) (by rfl) (by decide) (hs.ext x05) (uv_ones _) (by dsimp only; omega) (by dsimp only; omega) n5.ext.size
  dsimp only at hn6
  rw [← uv_append] at o6
  have x46 : Ext w4 w6 := n5.ext.fresh u6 fun k hk => by
    obtain ⟨p, hp, rfl⟩ := hk
    exact (o5.base p hp).1
  have z04 := x04.size
  have z46 := x46.size
  let all := [packT hd] ++ cs ++ [18446744073709551615 - packT hd]
  have hall : all = packT hd :: (cs ++ [18446744073709551615 - packT hd]) := by simp [all]
  have hal : all.length = cs.length + 2 := by rw [hall]; simp
  have hallt : ∀ y ∈ all, y < 18446744073709551616 := by
    intro y hy
    simp only [hall, List.mem_cons, List.mem_append, List.not_mem_nil, or_false] at hy
    rcases hy with rfl | hy | rfl
    · omega
    · exact hc y hy
    · omega
  rw [not_u64 (by omega)]
  refine ⟨r6, w6, hr6, fun a n w' => ∃ q, a = some ⟨q, 0, none⟩ ∧ n = ((A.use.e + 1 : Nat) : Int) ∧ q ≠ b ∧ q ≠ g ∧ Blk w' q 69 [.int .i64 (A.use.f : Nat), .int .i64 (A.use.e + all.length : Nat)] ∧ ArW 71 w' b g (A.lay A.use.e all) ∧ Upd (fun k => k = b) w w', fun w7 q7 => ?_, ?_⟩
  · have x47 := x46.trans q7.ext
    have x07 := x04.trans x47
    have a7 := h.ext x07
    have o7 := o6.ext q7.ext
    have z7 := x47.size
    have inS : ∀ {wa wb : World} {r : Sl}, Upd (fun k => ∃ p, r.a = some p ∧ k = p.block) wa wb → (∀ p, r.a = some p → w4.heap.size ≤ p.block) → Upd (fun k => k = b ∨ w4.heap.size ≤ k) wa wb := fun u hr => u.mono fun k _ hn => by
      rintro ⟨p, hp, rfl⟩
      exact hn (.inr (hr p hp))
    have keepA : ∀ {wa wb : World} {r : Sl}, ArW 71 wa b g A → Upd (fun k => ∃ p, r.a = some p ∧ k = p.block) wa wb → (∀ p, r.a = some p → w4.heap.size ≤ p.block) → ArW 71 wb b g A := fun a u hr =>
      a.upd u (by rintro ⟨p, hp, e⟩; have := hr p hp; omega) (by rintro ⟨p, hp, e⟩; have := hr p hp; omega)
    have th : ∀ {wa wb wc : World}, Upd (fun k => k = b ∨ w4.heap.size ≤ k) wa wb → Upd (fun k => k = b ∨ w4.heap.size ≤ k) wb wc → Upd (fun k => k = b ∨ w4.heap.size ≤ k) wa wc := fun u v => u.trans v fun _ _ hn => ⟨hn, hn⟩
    have fr : ∀ {wa wb : World} {q : Nat}, w4.heap.size ≤ q → Upd (fun k => k = q) wa wb → Upd (fun k => k = b ∨ w4.heap.size ≤ k) wa wb := fun hq u => u.mono fun k _ hn e => hn (.inr (by omega))
    have bS : ∀ {wa wb : World}, Upd (fun k => k = b) wa wb → Upd (fun k => k = b ∨ w4.heap.size ≤ k) wa wb := fun u => u.mono fun k _ hn e => hn (.inl e)
    have finB : ∀ {w'}, Upd (fun k => k = b ∨ w4.heap.size ≤ k) w7 w' → Upd (fun k => k = b) w w' := fun u => (x07.upd u).mono fun k hk hn e => by
      rcases e with e | e
      · exact hn e
      · omega
    have fit : A.use.e + all.length ≤ A.ws.length := by omega
    have b7 := fun p hp => (o7.base p hp).1
    refine ⟨fun k => k = b ∨ w4.heap.size ≤ k, _, _, rfl, fun w' u => ⟨(a7.hd.upd u (by omega)).cell 2, (a7.hd.upd u (by omega)).cell 3⟩, fun w8 n8 => ⟨n8.ext.toS, ?_, fun w9 n9 => ⟨n9.ext.toS, ?_⟩⟩, fun w8 n8 => ⟨n8.ext.toS, fun w9 n9 => ⟨n9.ext.toS, ?_⟩⟩⟩
    all_goals have z8 := n8.ext.size
    all_goals have hw8 := (Blk.new n8).lt
    · -- the guard word, the words, then lay, ahead of the space or behind it
      obtain ⟨r9, w9, h1, h2, o9, u9⟩ := app_word (o7.ext n8.ext) (Blk.new n8) (by omega) (by omega)
      have a9 := keepA (a7.ext n8.ext) u9 b7
      have z9 := u9.size
      have b9 : ∀ p, r9.a = some p → p.block ≠ b := fun p hp => by have := (o9.base p hp).1; omega
      have U9 := th n8.ext.toS (inS u9 b7)
      refine ⟨r9, w9, h1, inS u9 b7, ⟨(lay_spec a9 A.use o9.rd b9 fit hallt).mono ?_⟩, fun w10 n10 => ⟨n10.ext.toS, ⟨(lay_spec (a9.ext n10.ext) A.use (o9.rd.ext n10.ext) b9 fit hallt).mono ?_⟩⟩⟩
      · rintro e w10 ⟨rfl, a10, u10⟩
        have z10 := u10.size
        refine ⟨_, _, _, rfl, bS u10, fun w11 n11 => ⟨n11.ext.toS, rfl, (Blk.new n11).canSetN 0 2 (by simp), fun w12 s12 => ⟨fr (by dsimp only; omega) s12.upd, ?_⟩⟩⟩
        have k12 := s12.blk (i := 0) (Blk.new n11)
        simp only [setsL, List.set] at k12
        exact ⟨_, rfl, rfl, by omega, by omega, k12, (a10.ext n11.ext).upd s12.upd (by dsimp only; omega) (by dsimp only; omega), finB (th (th (th U9 (bS u10)) n11.ext.toS) (fr (by dsimp only; omega) s12.upd))⟩
      · rintro e w11 ⟨rfl, a11, u11⟩
        have k11 := (Blk.new n10).upd u11 (by omega)
        refine ⟨_, _, _, rfl, bS u11, rfl, k11.canSetN 0 2 (by simp), fun w12 s12 => ⟨fr (by dsimp only; omega) s12.upd, ?_⟩⟩
        have k12 := s12.blk (i := 0) k11
        simp only [setsL, List.set] at k12
        exact ⟨_, rfl, rfl, by omega, by omega, k12, a11.upd s12.upd (by dsimp only; omega) (by dsimp only; omega), finB (th (th (th U9 n10.ext.toS) (bS u11)) (fr (by dsimp only; omega) s12.upd))⟩
    · -- the guard word, the space, the words, lay
      have z9 := n9.ext.size
      obtain ⟨r10, w10, h1, h2, o10, u10⟩ := app_word ((o7.ext n8.ext).ext n9.ext) ((Blk.new n8).ext n9.ext) (by omega) (by omega)
      have a10 := keepA ((a7.ext n8.ext).ext n9.ext) u10 b7
      have z10 := u10.size
      have b10 : ∀ p, r10.a = some p → p.block ≠ b := fun p hp => by have := (o10.base p hp).1; omega
      have k10 := (Blk.new n9).upd u10 (by
        rintro ⟨p, hp, he⟩
        exact own_blk_ne ((o7.ext n8.ext).ext n9.ext) (Blk.new n9) (by decide) p hp he.symm)
      refine ⟨r10, w10, h1, inS u10 b7, ⟨(lay_spec a10 A.use o10.rd b10 fit hallt).mono ?_⟩⟩
      rintro e w11 ⟨rfl, a11, u11⟩
      have k11 := k10.upd u11 (by omega)
      refine ⟨_, _, _, rfl, bS u11, rfl, k11.canSetN 0 2 (by simp), fun w12 s12 => ⟨fr (by dsimp only; omega) s12.upd, ?_⟩⟩
      have k12 := s12.blk (i := 0) k11
      simp only [setsL, List.set] at k12
      exact ⟨_, rfl, rfl, by omega, by omega, k12, a11.upd s12.upd (by dsimp only; omega) (by dsimp only; omega), finB (th (th (th n8.ext.toS n9.ext.toS) (inS u10 b7)) (th (bS u11) (fr (by dsimp only; omega) s12.upd)))⟩
    · -- the space, the guard word, the words, lay
      have z9 := n9.ext.size
      obtain ⟨r10, w10, h1, h2, o10, u10⟩ := app_word ((o7.ext n8.ext).ext n9.ext) (Blk.new n9) (by omega) (by omega)
      have a10 := keepA ((a7.ext n8.ext).ext n9.ext) u10 b7
      have z10 := u10.size
      have b10 : ∀ p, r10.a = some p → p.block ≠ b := fun p hp => by have := (o10.base p hp).1; omega
      have k10 := ((Blk.new n8).ext n9.ext).upd u10 (by
        rintro ⟨p, hp, he⟩
        exact own_blk_ne ((o7.ext n8.ext).ext n9.ext) ((Blk.new n8).ext n9.ext) (by decide) p hp he.symm)
      refine ⟨r10, w10, h1, inS u10 b7, ⟨(lay_spec a10 A.use o10.rd b10 fit hallt).mono ?_⟩⟩
      rintro e w11 ⟨rfl, a11, u11⟩
      have k11 := k10.upd u11 (by omega)
      refine ⟨_, _, _, rfl, bS u11, rfl, k11.canSetN 0 2 (by simp), fun w12 s12 => ⟨fr (by dsimp only; omega) s12.upd, ?_⟩⟩
      have k12 := s12.blk (i := 0) k11
      simp only [setsL, List.set] at k12
      exact ⟨_, rfl, rfl, by omega, by omega, k12, a11.upd s12.upd (by dsimp only; omega) (by dsimp only; omega), finB (th (th (th n8.ext.toS n9.ext.toS) (inS u10 b7)) (th (bS u11) (fr (by dsimp only; omega) s12.upd)))⟩
  · rintro _ a n w7 ⟨q, rfl, rfl, hqb, hqg, kq, aq, uq⟩
    refine ⟨_, rfl, _, _, rfl, ⟨kq.cell 0, kq.cell 1⟩, rfl, aq.hd.canSetN 2 2 (by simp), fun w8 s8 => ?_⟩
    have k8 := s8.blk (i := 2) aq.hd
    simp only [setsL, List.set] at k8
    have w8b := aq.ws.upd s8.upd (Ne.symm hne)
    have e1 : (A.lay A.use.e all).ws = layL A.ws A.use.e (packT hd :: (cs ++ [18446744073709551615 - packT hd])) := by rw [← hall]; rfl
    refine ⟨rfl, ⟨hok, ?_, ?_⟩, ?_⟩
    · dsimp only
      rw [hal, show A.use.e + (cs.length + 2) = A.use.e + cs.length + 2 by omega, e1] at k8
      exact k8
    · dsimp only
      rw [e1] at w8b
      exact w8b
    · exact (uq.mono fun k _ hn e => hn (.inl e)).one' s8.upd (.inr rfl)
end Go.Proofs.Ytggpomialmpgoaa.V
namespace Go.Proofs.Ytggpomialmpgoaa.V
open Go Go.RowKit
set_option linter.unusedVariables false
set_option linter.unusedSimpArgs false
set_option maxRecDepth 100000

def copyT (A : Ar) (r : Nat) : Ar × Nat × Int :=
  if A.opn = false then (A, 0, 1)
  else if r = 0 then (A, 0, 0)
  else if ¬ (A.use.f < r ∧ r ≤ A.use.e) then (A, 0, 20)
  else if A.ws.getD (r - 1) 0 % 4 = 0 ∧ (stT A A.nxt (A.ws.getD (r - 1) 0 / 4)).isSome = true then (A, A.ws.getD (r - 1) 0 / 4, 0)
  else match stT A A.use r with
    | none => (A, 0, 20)
    | some h =>
      if A.nxt.f + A.n - A.nxt.e < h.l.toNat + 2 then (A, 0, 18)
      else ({ A with ws := (layL A.ws A.nxt.e ((A.ws.drop (r - 1)).take (h.l.toNat + 2))).set (r - 1) (4 * (A.nxt.e + 1)), nxt := ⟨A.nxt.f, A.nxt.e + h.l.toNat + 2⟩ }, A.nxt.e + 1, 0)
theorem copyT_ok {A : Ar} (h : A.Ok) (r : Nat) : (copyT A r).1.Ok := by
  have h1 := h.use1; have h2 := h.useIn; have h3 := h.len; have hn := h.n
  unfold copyT
  split
  · exact h
  split
  · exact h
  split
  · exact h
  split
  · exact h
  split
  · exact h
  · rename_i ho _ _ _ _ hd hst
    have ho : A.opn = true := by simpa using ho
    have hx := h.nxt ho
    have hi := stT_in hst
    split
    · exact h
    · have hsl : ((A.ws.drop (r - 1)).take (hd.l.toNat + 2)).length = hd.l.toNat + 2 := by
        rw [List.length_take, List.length_drop]; omega
      refine ⟨h.n, ?_, fun x hx' => ?_, h.use, h.use1, fun _ => ⟨hx.1, by dsimp only; omega, by dsimp only; omega⟩, fun hf => ?_⟩
      · dsimp only; rw [List.length_set, layL_len (by rw [hsl]; omega)]; exact h.len
      · rcases List.mem_or_eq_of_mem_set hx' with h4 | h4
        · rcases layL_mem h4 with h5 | h5
          · exact h.lt x h5
          · exact h.lt x (List.mem_of_mem_drop (List.mem_of_mem_take h5))
        · rw [h4]; omega
      · dsimp only at hf; rw [ho] at hf; cases hf
theorem layL_uv {l X : List Nat} {a n : Nat} (hX : X.length = n) : (uv l).take a ++ ((uv X).take n ++ (uv l).drop (a + n)) = uv (layL l a X) := by
  have e : (uv X).take n = uv X := List.take_of_length_le (by rw [uv_length]; omega)
  unfold layL
  rw [e, hX, uv_append, uv_append, List.append_assoc]
  unfold uv
  rw [List.map_take, List.map_drop]
theorem tag_bits {x : Nat} (hx : x < 18446744073709551616) : bitV .and .u64 (x : Int) 3 = ((x % 4 : Nat) : Int) ∧ shrV .u64 (x : Int) 2 = ((x / 4 : Nat) : Int) := by
  refine ⟨?_, shr_nat .u64 x 2 (by decide)⟩
  rw [show (3 : Int) = ((3 : Nat) : Int) from rfl, and_u64 _ _ hx (by decide), show x &&& 3 = x % 4 from Nat.and_two_pow_sub_one_eq_mod x 2]
theorem copy_spec {w : World} {b g : Nat} {A : Ar} (h : ArW 91 w b g A) {r : Nat} (hr : r < 18446744073709551616) :
    Calls Try.prog 53 #[.pointer (some ⟨g, 0, none⟩), .int .u64 (r : Nat)] w fun e w' => e = .returned (.tuple #[.int .u64 ((copyT A r).2.1 : Nat), .int .i64 (copyT A r).2.2]) ∧ ArW 91 w' b g (copyT A r).1 ∧ Upd (fun k => k = b ∨ k = g) w w' := by
  refine vc_53 _ _ _ _ ?_
  have hi := h.ok.useIn; have h1 := h.ok.use1; have h2 := h.ok.nxtIn
  have hn := h.ok.n; have hlen := h.ok.len
  have hne : g ≠ b := h.hd.ne h.ws (by decide)
  have hok := copyT_ok h.ok r
  have hb0 := h.ws.lt; have hg0 := h.hd.lt
  simp only [eq_self, false_or, or_false, true_and, and_true, decide_eq_true_eq, decide_eq_false_iff_not, gd_st, gd_sf, exists_eq_left', exists_eq_left, Option.some.injEq, Sl.eta, Nat.reduceLeDiff, Int.reduceLE, Int.reduceLT, Int.reduceEq, Int.reduceNe, Nat.reduceMul, Nat.reduceAdd, Nat.reduceSub, Int.toNat_natCast, beq_iff_eq, bne_iff_ne, beq_eq_false_iff_ne, bne_eq_false_iff_eq, pick_and, pick_or, Bool.and_eq_true, Bool.or_eq_true, Bool.and_eq_false_iff, Bool.or_eq_false_iff, ne_eq, not_false_eq_true, Bool.not_eq_true', Bool.not_eq_false', reduceCtorEq, Nat.le_refl, Nat.zero_mul, Nat.mul_one, Nat.zero_add, Int.reduceToNat, ones, one, add_mk, Decidable.not_not, cond_true, cond_false, true_implies, false_implies, implies_true, Bool.not_true, Bool.not_false]
  unfold copyT at hok ⊢
  refine ⟨A.opn, h.hd.cell 6, fun ho => ?_, fun ho => ⟨fun h0 => ?_, fun h0 => ?_⟩⟩
  · rw [if_pos ho]; exact ⟨rfl, h, .refl _ _⟩
  · rw [if_neg (by rw [ho]; decide), if_pos (by omega)]; exact ⟨rfl, h, .refl _ _⟩
  have hx := h.ok.nxt ho
  rw [if_neg (by rw [ho]; decide), if_neg (by omega)] at hok ⊢
  refine ⟨_, h.hd.cell 2, fun h3 => ⟨_, h.hd.cell 3, fun h4 => ?_, fun h4 => ?_⟩, fun h3 => ?_⟩
  all_goals rw [wrap_u64 (n := (A.use.f : Int)) (by omega) (by omega)] at h3
  · rw [wrap_u64 (n := (A.use.e : Int)) (by omega) (by omega)] at h4
    rw [if_pos (by omega)]; exact ⟨rfl, h, .refl _ _⟩
  rotate_left
  · rw [if_pos (by omega)]; exact ⟨rfl, h, .refl _ _⟩
  rw [wrap_u64 (n := (A.use.e : Int)) (by omega) (by omega)] at h4
  have hin : ¬ ¬ (A.use.f < r ∧ r ≤ A.use.e) := by omega
  rw [if_neg hin] at hok ⊢
  have hrl : r - 1 < A.ws.length := by omega
  have er : IntKind.u64.wrap ((r : Int) - 1) = ((r - 1 : Nat) : Int) := by rw [wrap_u64 (by omega) (by omega)]; omega
  rw [er]
  obtain ⟨x, hx0⟩ : ∃ x, A.ws.getD (r - 1) 0 = x := ⟨_, rfl⟩
  have hxg : A.ws[r - 1]? = some x := by
    rw [List.getElem?_eq_getElem hrl, ← hx0, List.getD_eq_getElem?_getD, List.getElem?_eq_getElem hrl]; rfl
  have hxl := h.ok.lt x (List.mem_of_getElem? hxg)
  rw [hx0] at hok ⊢
  obtain ⟨e3, e4⟩ := tag_bits hxl
  refine ⟨fun w' => Ext w w' ∧ ¬ (x % 4 = 0 ∧ (stT A A.nxt (x / 4)).isSome = true), ⟨⟨some ⟨b, 0, none⟩, A.ws.length, A.ws.length⟩, h.hd.cell 1, by omega, by dsimp only; omega, _, rfl, (x : Int), by rw [Int.toNat_natCast, ← hx0]; exact h.wordAt hrl, ?_⟩, ?_⟩
  · rw [e3, e4]
    refine ⟨fun h5 => ⟨_, _, rfl, ⟨h.hd.cell 4, h.hd.cell 5⟩, ⟨(in_spec h (s := A.nxt) h2.1 h2.2.1 (r := x / 4) (by omega)).mono ?_⟩⟩, fun h5 => ⟨.refl _, fun hh => h5 (by omega)⟩⟩
    rintro e w1 ⟨rfl, x1⟩
    refine ⟨_, _, _, _, _, rfl, fun w2 n2 => ⟨rfl, HB.can n2, fun w3 s3 => ?_⟩⟩
    obtain ⟨b3, y3⟩ := HB.made n2 s3
    have x03 := x1.trans y3
    refine ⟨fun h6 => ?_, fun h6 => ⟨x03, fun hh => ?_⟩⟩
    · rw [if_pos ⟨by omega, h6⟩]
      exact ⟨rfl, h.ext x03, x03.toS⟩
    · rw [h6] at hh; exact absurd hh.2 (by decide)
  · rintro _ w1 ⟨x1, hno⟩
    rw [if_neg hno] at hok ⊢
    have a1 := h.ext x1
    refine ⟨_, _, rfl, ⟨a1.hd.cell 2, a1.hd.cell 3⟩, ⟨(in_spec a1 (s := A.use) hi.2.1 hi.2.2 hr).mono ?_⟩⟩
    rintro e w2 ⟨rfl, x2⟩
    refine ⟨_, _, _, _, _, rfl, fun w3 n3 => ⟨rfl, HB.can n3, fun w4 s4 => ?_⟩⟩
    obtain ⟨b4, y4⟩ := HB.made n3 s4
    have x04 := x1.trans (x2.trans y4)
    have a4 := h.ext x04
    cases hst : stT A A.use r with
    | none =>
      exact ⟨fun _ => ⟨rfl, a4, x04.toS⟩, fun h => (by cases h)⟩
    | some hd =>
      rw [hst] at b4 hok
      have hin2 := stT_in hst
      have m := hin2.2.1
      have ml := m.le
      have m0 : 0 ≤ hd.l := m.2.2.1
      obtain ⟨len, hlen'⟩ : ∃ n : Nat, hd.l = n := ⟨hd.l.toNat, by omega⟩
      refine ⟨fun h => (by cases h), fun _ => ⟨hd.l, b4.cell 2, _, a4.hd.cell 4, _, a4.hd.cell 0, _, a4.hd.cell 5, fun w5 q5 => ?_⟩⟩
      dsimp only at hok ⊢
      rw [hlen', Int.toNat_natCast] at hok ⊢
      rw [hlen', Int.toNat_natCast] at hin2
      have x05 := x04.trans q5.ext
      have a5 := h.ext x05
      have b5 := b4.ext q5.ext
      rw [wrap_i64 (n := (A.nxt.f : Int) + (A.n : Int)) (by omega) (by omega), wrap_i64 (n := (A.nxt.f : Int) + (A.n : Int) - (A.nxt.e : Int)) (by omega) (by omega), wrap_i64 (n := (len : Int) + 2) (by omega) (by omega)]
      refine ⟨fun h6 => ?_, fun h6 => ?_⟩
      · rw [if_pos (by omega)]; exact ⟨rfl, a5, x05.toS⟩
      have hfit : ¬ A.nxt.f + A.n - A.nxt.e < len + 2 := by omega
      rw [if_neg hfit] at hok ⊢
      intro w6 q6
      have x06 := x05.trans q6.ext
      have a6 := h.ext x06
      rw [wrap_i64 (n := (r : Int)) (by omega) (by omega), wrap_i64 (n := (r : Int) - 1) (by omega) (by omega), wrap_i64 (n := (r : Int) - 1 + ((len : Int) + 2)) (by omega) (by omega), show (r : Int) - 1 + ((len : Int) + 2) = ((r - 1 + (len + 2) : Nat) : Int) by omega]
      refine ⟨fun _ => False, ⟨some ⟨b, 0, none⟩, A.ws.length, A.ws.length⟩, fun w' u => (a6.ext u).hd.cell 1, _, fun w' u => (a6.ext u).hd.cell 5, by omega, by dsimp only; omega, ⟨some ⟨b, 0, none⟩, A.ws.length, A.ws.length⟩, fun w' u => (a6.ext u).hd.cell 1, by omega, by omega, by dsimp only; omega, ?_⟩
      simp only [Int.toNat_natCast]
      rw [if_neg (show ¬ A.ws.length = A.nxt.e by omega), if_neg (show ¬ A.ws.length = r - 1 by omega), show r - 1 + (len + 2) - (r - 1) = len + 2 by omega]
      simp only [Option.map_some, add_mk, Nat.zero_add]
      have rd6 : Rd w6 1 ⟨some ⟨b, r - 1, none⟩, len + 2, A.ws.length - (r - 1)⟩ (uv ((A.ws.drop (r - 1)).take (len + 2))) := by
        have := a6.ws.rd (z := 1) (o := r - 1) (n := len + 2) (c := A.ws.length - (r - 1)) (by rw [uv_length]; omega)
        rw [Nat.mul_one] at this
        simpa only [uv, List.map_take, List.map_drop] using this
      obtain ⟨w7, hr7, b7, u7, z7⟩ := run_copy (P := Try.prog) (t1 := 38) (t2 := 38) (ty := 3) (dn := A.ws.length - A.nxt.e) (dc := A.ws.length - A.nxt.e) tab_ok (by rfl) (by rfl) (o := A.nxt.e) a6.ws (by rw [uv_length]; omega) rd6 (uv_ones _)
      have hsl : ((A.ws.drop (r - 1)).take (len + 2)).length = len + 2 := by rw [List.length_take, List.length_drop]; omega
      rw [show min (len + 2) (A.ws.length - A.nxt.e) = len + 2 by omega] at b7
      rw [layL_uv hsl] at b7
      have hd7 := a6.hd.upd u7 hne
      refine ⟨_, w7, hr7, _, hd7.cell 5, _, hd7.cell 5, hd7.canSet 5 (by simp), fun w8 s8 => ?_⟩
      rw [wrap_i64 (n := (A.nxt.e : Int) + ((len : Int) + 2)) (by omega) (by omega), show (A.nxt.e : Int) + ((len : Int) + 2) = ((A.nxt.e + len + 2 : Nat) : Int) by omega] at s8
      have hd8 := s8.blk1 (i := 5) hd7
      have b8 := b7.upd s8.upd (Ne.symm hne)
      have hll : (layL A.ws A.nxt.e ((A.ws.drop (r - 1)).take (len + 2))).length = A.ws.length := layL_len (by rw [hsl]; omega)
      refine ⟨⟨some ⟨b, 0, none⟩, A.ws.length, A.ws.length⟩, hd8.cell 1, by omega, by dsimp only; omega, _, rfl, ?_, fun w9 s9 => ?_⟩
      · rw [add_mk, Nat.zero_add]
        exact b8.canSet _ (by rw [uv_length, hll]; omega)
      rw [add_mk, Nat.zero_add] at s9
      have et : IntKind.u64.wrap (IntKind.u64.wrap (A.nxt.e : Int) + 1) = ((A.nxt.e + 1 : Nat) : Int) := by
        rw [wrap_u64 (n := (A.nxt.e : Int)) (by omega) (by omega), wrap_u64 (by omega) (by omega)]; omega
      rw [et] at s9 ⊢
      rw [show shlV .u64 ((A.nxt.e + 1 : Nat) : Int) 2 = _ from shl_u64 (A.nxt.e + 1) 2 (by decide), Nat.mod_eq_of_lt (show (A.nxt.e + 1) * 2 ^ 2 < 18446744073709551616 by omega), show (A.nxt.e + 1) * 2 ^ 2 = 4 * (A.nxt.e + 1) by omega] at s9
      have b9 := s9.blk1 b8
      rw [uv_set] at b9
      have hd9 := hd8.upd s9.upd hne
      refine ⟨rfl, ⟨hok, ?_, b9⟩, ?_⟩
      · dsimp only
        rw [List.length_set, hll]
        exact hd9
      · have U1 : Upd (fun k => k = b ∨ k = g) w w7 := x06.upd (u7.mono fun k _ hn e => hn (.inl e))
        exact (U1.one' s8.upd (.inr rfl)).one' s9.upd (.inl rfl)
end Go.Proofs.Ytggpomialmpgoaa.V
namespace Go.Proofs.Ytggpomialmpgoaa.V
open Go Go.RowKit
set_option linter.unusedVariables false
set_option linter.unusedSimpArgs false
set_option maxRecDepth 100000

/-- the space that objects come behind one another in -/
def spT (A : Ar) : Sp := if A.opn = true then A.nxt else A.use
def lastT (A : Ar) (nx : Nat) : Nat × Bool :=
  match stT A (spT A) nx with
  | some _ => (nx, true)
  | none => (0, false)
def afterT (A : Ar) (r : Nat) : Nat × Bool :=
  if r = 0 then lastT A ((spT A).f + 1)
  else match stT A (spT A) r with
    | some h => lastT A (r + h.l.toNat + 2)
    | none => (0, false)
theorem after_spec {w : World} {b g : Nat} {A : Ar} (h : ArW 91 w b g A) {r : Nat} (hr : r < 18446744073709551616) :
    Calls Try.prog 54 #[.pointer (some ⟨g, 0, none⟩), .int .u64 (r : Nat)] w fun e w' => e = .returned (.tuple #[.int .u64 ((afterT A r).1 : Nat), .bool (afterT A r).2]) ∧ Ext w w' := by
  refine vc_54 _ _ _ _ ?_
  have hi := h.ok.useIn; have h1 := h.ok.use1; have h2 := h.ok.nxtIn
  have hn := h.ok.n; have hlen := h.ok.len
  simp only [eq_self, false_or, or_false, true_and, and_true, decide_eq_true_eq, decide_eq_false_iff_not, gd_st, gd_sf, exists_eq_left', exists_eq_left, Option.some.injEq, Sl.eta, Nat.reduceLeDiff, Int.reduceLE, Int.reduceLT, Int.reduceEq, Int.reduceNe, Nat.reduceMul, Nat.reduceAdd, Nat.reduceSub, Int.toNat_natCast, beq_iff_eq, bne_iff_ne, beq_eq_false_iff_ne, bne_eq_false_iff_eq, pick_and, pick_or, Bool.and_eq_true, Bool.or_eq_true, Bool.and_eq_false_iff, Bool.or_eq_false_iff, ne_eq, not_false_eq_true, Bool.not_eq_true', Bool.not_eq_false', reduceCtorEq, Nat.le_refl, Nat.zero_mul, Nat.mul_one, Nat.zero_add, Int.reduceToNat, ones, one, add_mk, Decidable.not_not, cond_true, cond_false, true_implies, false_implies, implies_true, Bool.not_true, Bool.not_false]
  refine ⟨_, _, rfl, ⟨h.hd.cell 2, h.hd.cell 3⟩, fun w1 n1 => ⟨rfl, (Blk.new n1).canSetN 0 2 (by simp), fun w2 s2 => ?_⟩⟩
  have k2 := s2.blk (i := 0) (Blk.new n1)
  simp only [setsL, List.set] at k2
  have x02 : Ext w w2 := n1.ext.fresh s2.upd (by rintro i rfl; exact Nat.le_refl _)
  have a2 := h.ext x02
  refine ⟨fun w' => Ext w w' ∧ Blk w' w.heap.size 89 [.int .i64 ((spT A).f : Nat), .int .i64 ((spT A).e : Nat)], ⟨A.opn, a2.hd.cell 6, fun ho => ⟨_, _, rfl, ⟨a2.hd.cell 4, a2.hd.cell 5⟩, rfl, k2.canSetN 0 2 (by simp), fun w3 s3 => ?_⟩, fun ho => ?_⟩, ?_⟩
  · have k3 := s3.blk (i := 0) k2
    simp only [setsL, List.set] at k3
    refine ⟨x02.fresh s3.upd (by rintro i rfl; exact Nat.le_refl _), ?_⟩
    unfold spT; rw [if_pos ho]; exact k3
  · refine ⟨x02, ?_⟩
    unfold spT; rw [if_neg (by rw [ho]; decide)]; exact k2
  rintro _ w3 ⟨x3, k3⟩
  have hs : (spT A).f ≤ 2 * A.n ∧ (spT A).e ≤ 2 * A.n := by unfold spT; split <;> omega
  have a3 := h.ext x3
  refine ⟨_, k3.cell 0, fun n w' => ∃ nx : Nat, n = nx ∧ nx < 18446744073709551616 ∧ afterT A r = lastT A nx ∧ Ext w w' ∧ Blk w' w.heap.size 89 [.int .i64 ((spT A).f : Nat), .int .i64 ((spT A).e : Nat)], ⟨fun h0 => ?_, fun h0 => ?_⟩, ?_⟩
  · refine ⟨_, _, rfl, ⟨k3.cell 0, k3.cell 1⟩, ⟨(in_spec a3 (s := spT A) hs.1 hs.2 hr).mono ?_⟩⟩
    rintro e w4 ⟨rfl, x4⟩
    refine ⟨_, _, _, _, _, rfl, fun w5 n5 => ⟨rfl, HB.can n5, fun w6 s6 => ?_⟩⟩
    obtain ⟨b6, y6⟩ := HB.made n5 s6
    have x36 := x4.trans y6
    cases hst : stT A (spT A) r with
    | none =>
      refine ⟨fun _ => ⟨?_, x3.trans x36⟩, fun h => (by cases h)⟩
      unfold afterT; rw [if_neg (by omega), hst]; rfl
    | some hd =>
      rw [hst] at b6
      have hin := stT_in hst
      have ml := hin.2.1.le
      have m0 : 0 ≤ hd.l := hin.2.1.2.2.1
      refine ⟨fun h => (by cases h), fun _ => ⟨hd.l, b6.cell 2, r + hd.l.toNat + 2, ?_, by omega, ?_, x3.trans x36, k3.ext x36⟩⟩
      · rw [wrap_u64 (n := hd.l) (by omega) (by omega), wrap_u64 (n := (r : Int) + hd.l) (by omega) (by omega), wrap_u64 (by omega) (by omega)]; omega
      · unfold afterT; rw [if_neg (by omega), hst]
  · refine ⟨(spT A).f + 1, ?_, by omega, ?_, x3, k3⟩
    · rw [wrap_u64 (n := ((spT A).f : Int)) (by omega) (by omega), wrap_u64 (by omega) (by omega)]; omega
    · unfold afterT; rw [if_pos (by omega)]
  · rintro _ _ w4 ⟨nx, rfl, hnx, ha, x4, k4⟩
    have a4 := h.ext x4
    refine ⟨_, _, rfl, ⟨k4.cell 0, k4.cell 1⟩, ⟨(in_spec a4 (s := spT A) hs.1 hs.2 hnx).mono ?_⟩⟩
    rintro e w5 ⟨rfl, x5⟩
    refine ⟨_, _, _, _, _, rfl, fun w6 n6 => ⟨rfl, HB.can n6, fun w7 s7 => ?_⟩⟩
    obtain ⟨b7, y7⟩ := HB.made n6 s7
    have x7 := x4.trans (x5.trans y7)
    rw [ha]
    unfold lastT
    cases hst : stT A (spT A) nx with
    | none => exact ⟨fun _ => ⟨rfl, x7⟩, fun h => (by cases h)⟩
    | some hd => exact ⟨fun h => (by cases h), fun _ => ⟨rfl, x7⟩⟩
theorem rafter_spec {w : World} {b g : Nat} {A : Ar} (h : ArW 71 w b g A) {r : Nat} (hr : r < 18446744073709551616) :
    Calls Try.prog 69 #[.pointer (some ⟨g, 0, none⟩), .int .u64 (r : Nat)] w fun e w' => e = .returned (.tuple #[.int .u64 ((afterT A r).1 : Nat), .bool (afterT A r).2]) ∧ Ext w w' := by
  refine vc_69 _ _ _ _ ?_
  have hi := h.ok.useIn; have h1 := h.ok.use1; have h2 := h.ok.nxtIn
  have hn := h.ok.n; have hlen := h.ok.len
  simp only [eq_self, false_or, or_false, true_and, and_true, decide_eq_true_eq, decide_eq_false_iff_not, gd_st, gd_sf, exists_eq_left', exists_eq_left, Option.some.injEq, Sl.eta, Nat.reduceLeDiff, Int.reduceLE, Int.reduceLT, Int.reduceEq, Int.reduceNe, Nat.reduceMul, Nat.reduceAdd, Nat.reduceSub, Int.toNat_natCast, beq_iff_eq, bne_iff_ne, beq_eq_false_iff_ne, bne_eq_false_iff_eq, pick_and, pick_or, Bool.and_eq_true, Bool.or_eq_true, Bool.and_eq_false_iff, Bool.or_eq_false_iff, ne_eq, not_false_eq_true, Bool.not_eq_true', Bool.not_eq_false', reduceCtorEq, Nat.le_refl, Nat.zero_mul, Nat.mul_one, Nat.zero_add, Int.reduceToNat, ones, one, add_mk, Decidable.not_not, cond_true, cond_false, true_implies, false_implies, implies_true, Bool.not_true, Bool.not_false]
  refine ⟨_, _, rfl, ⟨h.hd.cell 2, h.hd.cell 3⟩, fun w1 n1 => ⟨rfl, (Blk.new n1).canSetN 0 2 (by simp), fun w2 s2 => ?_⟩⟩
  have k2 := s2.blk (i := 0) (Blk.new n1)
  simp only [setsL, List.set] at k2
  have x02 : Ext w w2 := n1.ext.fresh s2.upd (by rintro i rfl; exact Nat.le_refl _)
  have a2 := h.ext x02
  refine ⟨fun w' => Ext w w' ∧ Blk w' w.heap.size 69 [.int .i64 ((spT A).f : Nat), .int .i64 ((spT A).e : Nat)], ⟨A.opn, a2.hd.cell 6, fun ho => ⟨_, _, rfl, ⟨a2.hd.cell 4, a2.hd.cell 5⟩, rfl, k2.canSetN 0 2 (by simp), fun w3 s3 => ?_⟩, fun ho => ?_⟩, ?_⟩
  · have k3 := s3.blk (i := 0) k2
    simp only [setsL, List.set] at k3
    refine ⟨x02.fresh s3.upd (by rintro i rfl; exact Nat.le_refl _), ?_⟩
    unfold spT; rw [if_pos ho]; exact k3
  · refine ⟨x02, ?_⟩
    unfold spT; rw [if_neg (by rw [ho]; decide)]; exact k2
  rintro _ w3 ⟨x3, k3⟩
  have hs : (spT A).f ≤ 2 * A.n ∧ (spT A).e ≤ 2 * A.n := by unfold spT; split <;> omega
  have a3 := h.ext x3
  refine ⟨_, k3.cell 0, fun n w' => ∃ nx : Nat, n = nx ∧ nx < 18446744073709551616 ∧ afterT A r = lastT A nx ∧ Ext w w' ∧ Blk w' w.heap.size 69 [.int .i64 ((spT A).f : Nat), .int .i64 ((spT A).e : Nat)], ⟨fun h0 => ?_, fun h0 => ?_⟩, ?_⟩
  · refine ⟨_, _, rfl, ⟨k3.cell 0, k3.cell 1⟩, ⟨(rin_spec a3 (s := spT A) hs.1 hs.2 hr).mono ?_⟩⟩
    rintro e w4 ⟨rfl, x4⟩
    refine ⟨_, _, _, _, _, rfl, fun w5 n5 => ⟨rfl, HB.can n5, fun w6 s6 => ?_⟩⟩
    obtain ⟨b6, y6⟩ := HB.made n5 s6
    have x36 := x4.trans y6
    cases hst : stT A (spT A) r with
    | none =>
      refine ⟨fun _ => ⟨?_, x3.trans x36⟩, fun h => (by cases h)⟩
      unfold afterT; rw [if_neg (by omega), hst]; rfl
    | some hd =>
      rw [hst] at b6
      have hin := stT_in hst
      have ml := hin.2.1.le
      have m0 : 0 ≤ hd.l := hin.2.1.2.2.1
      refine ⟨fun h => (by cases h), fun _ => ⟨hd.l, b6.cell 2, r + hd.l.toNat + 2, ?_, by omega, ?_, x3.trans x36, k3.ext x36⟩⟩
      · rw [wrap_u64 (n := hd.l) (by omega) (by omega), wrap_u64 (n := (r : Int) + hd.l) (by omega) (by omega), wrap_u64 (by omega) (by omega)]; omega
      · unfold afterT; rw [if_neg (by omega), hst]
  · refine ⟨(spT A).f + 1, ?_, by omega, ?_, x3, k3⟩
    · rw [wrap_u64 (n := ((spT A).f : Int)) (by omega) (by omega), wrap_u64 (by omega) (by omega)]; omega
    · unfold afterT; rw [if_pos (by omega)]
  · rintro _ _ w4 ⟨nx, rfl, hnx, ha, x4, k4⟩
    have a4 := h.ext x4
    refine ⟨_, _, rfl, ⟨k4.cell 0, k4.cell 1⟩, ⟨(rin_spec a4 (s := spT A) hs.1 hs.2 hnx).mono ?_⟩⟩
    rintro e w5 ⟨rfl, x5⟩
    refine ⟨_, _, _, _, _, rfl, fun w6 n6 => ⟨rfl, HB.can n6, fun w7 s7 => ?_⟩⟩
    obtain ⟨b7, y7⟩ := HB.made n6 s7
    have x7 := x4.trans (x5.trans y7)
    rw [ha]
    unfold lastT
    cases hst : stT A (spT A) nx with
    | none => exact ⟨fun _ => ⟨rfl, x7⟩, fun h => (by cases h)⟩
    | some hd => exact ⟨fun h => (by cases h), fun _ => ⟨rfl, x7⟩⟩
end Go.Proofs.Ytggpomialmpgoaa.V
namespace Go.Proofs.Ytggpomialmpgoaa.V
open Go Go.RowKit
set_option linter.unusedVariables false
set_option linter.unusedSimpArgs false
set_option maxRecDepth 100000

theorem rcopy_spec {w : World} {b g : Nat} {A : Ar} (h : ArW 71 w b g A) {r : Nat} (hr : r < 18446744073709551616) :
    Calls Try.prog 71 #[.pointer (some ⟨g, 0, none⟩), .int .u64 (r : Nat)] w fun e w' => e = .returned (.tuple #[.int .u64 ((copyT A r).2.1 : Nat), .int .i64 (copyT A r).2.2]) ∧ ArW 71 w' b g (copyT A r).1 ∧ Upd (fun k => k = b ∨ k = g) w w' := by
  refine vc_71 _ _ _ _ ?_
  have hi := h.ok.useIn; have h1 := h.ok.use1; have h2 := h.ok.nxtIn
  have hn := h.ok.n; have hlen := h.ok.len
  have hne : g ≠ b := h.hd.ne h.ws (by decide)
  have hok := copyT_ok h.ok r
  have hb0 := h.ws.lt; have hg0 := h.hd.lt
  simp only [eq_self, false_or, or_false, true_and, and_true, decide_eq_true_eq, decide_eq_false_iff_not, gd_st, gd_sf, exists_eq_left', exists_eq_left, Option.some.injEq, Sl.eta, Nat.reduceLeDiff, Int.reduceLE, Int.reduceLT, Int.reduceEq, Int.reduceNe, Nat.reduceMul, Nat.reduceAdd, Nat.reduceSub, Int.toNat_natCast, beq_iff_eq, bne_iff_ne, beq_eq_false_iff_ne, bne_eq_false_iff_eq, pick_and, pick_or, Bool.and_eq_true, Bool.or_eq_true, Bool.and_eq_false_iff, Bool.or_eq_false_iff, ne_eq, not_false_eq_true, Bool.not_eq_true', Bool.not_eq_false', reduceCtorEq, Nat.le_refl, Nat.zero_mul, Nat.mul_one, Nat.zero_add, Int.reduceToNat, ones, one, add_mk, Decidable.not_not, cond_true, cond_false, true_implies, false_implies, implies_true, Bool.not_true, Bool.not_false]
  unfold copyT at hok ⊢
  refine ⟨A.opn, h.hd.cell 6, fun ho => ?_, fun ho => ⟨fun h0 => ?_, fun h0 => ?_⟩⟩
  · rw [if_pos ho]; exact ⟨rfl, h, .refl _ _⟩
  · rw [if_neg (by rw [ho]; decide), if_pos (by omega)]; exact ⟨rfl, h, .refl _ _⟩
  have hx := h.ok.nxt ho
  rw [if_neg (by rw [ho]; decide), if_neg (by omega)] at hok ⊢
  refine ⟨_, h.hd.cell 2, fun h3 => ⟨_, h.hd.cell 3, fun h4 => ?_, fun h4 => ?_⟩, fun h3 => ?_⟩
  all_goals rw [wrap_u64 (n := (A.use.f : Int)) (by omega) (by omega), wrap_u64 (n := (A.use.f : Int) + 1) (by omega) (by omega)] at h3
  · rw [wrap_u64 (n := (A.use.e : Int)) (by omega) (by omega)] at h4
    rw [if_pos (by omega)]; exact ⟨rfl, h, .refl _ _⟩
  rotate_left
  · rw [if_pos (by omega)]; exact ⟨rfl, h, .refl _ _⟩
  rw [wrap_u64 (n := (A.use.e : Int)) (by omega) (by omega)] at h4
  have hin : ¬ ¬ (A.use.f < r ∧ r ≤ A.use.e) := by omega
  rw [if_neg hin] at hok ⊢
  have hrl : r - 1 < A.ws.length := by omega
  have er : IntKind.u64.wrap ((r : Int) - 1) = ((r - 1 : Nat) : Int) := by rw [wrap_u64 (by omega) (by omega)]; omega
  rw [er]
  obtain ⟨x, hx0⟩ : ∃ x, A.ws.getD (r - 1) 0 = x := ⟨_, rfl⟩
  have hxg : A.ws[r - 1]? = some x := by
    rw [List.getElem?_eq_getElem hrl, ← hx0, List.getD_eq_getElem?_getD, List.getElem?_eq_getElem hrl]; rfl
  have hxl := h.ok.lt x (List.mem_of_getElem? hxg)
  rw [hx0] at hok ⊢
  have e3 : (x : Int).tmod 4 = ((x % 4 : Nat) : Int) := by rw [Int.tmod_eq_emod_of_nonneg (by omega)]; omega
  have e4 : IntKind.u64.wrap ((x : Int).tdiv 4) = ((x / 4 : Nat) : Int) := by
    rw [Int.tdiv_eq_ediv_of_nonneg (by omega), wrap_u64 (by omega) (by omega)]; omega
  refine ⟨⟨some ⟨b, 0, none⟩, A.ws.length, A.ws.length⟩, h.hd.cell 1, by omega, by dsimp only; omega, _, rfl, (x : Int), by rw [Int.toNat_natCast, ← hx0]; exact h.wordAt hrl, ?_⟩
  refine ⟨fun w' => Ext w w' ∧ ¬ (x % 4 = 0 ∧ (stT A A.nxt (x / 4)).isSome = true), ?_, ?_⟩
  · rw [e3, e4]
    refine ⟨fun h5 => ⟨_, _, rfl, ⟨h.hd.cell 4, h.hd.cell 5⟩, ⟨(rin_spec h (s := A.nxt) h2.1 h2.2.1 (r := x / 4) (by omega)).mono ?_⟩⟩, fun h5 => ⟨.refl _, fun hh => h5 (by omega)⟩⟩
    rintro e w1 ⟨rfl, x1⟩
    refine ⟨_, _, _, _, _, rfl, fun w2 n2 => ⟨rfl, HB.can n2, fun w3 s3 => ?_⟩⟩
    obtain ⟨b3, y3⟩ := HB.made n2 s3
    have x03 := x1.trans y3
    refine ⟨fun h6 => ?_, fun h6 => ⟨x03, fun hh => ?_⟩⟩
    · rw [if_pos ⟨by omega, h6⟩]
      exact ⟨rfl, h.ext x03, x03.toS⟩
    · rw [h6] at hh; exact absurd hh.2 (by decide)
  · rintro _ w1 ⟨x1, hno⟩
    rw [if_neg hno] at hok ⊢
    have a1 := h.ext x1
    refine ⟨_, _, rfl, ⟨a1.hd.cell 2, a1.hd.cell 3⟩, ⟨(rin_spec a1 (s := A.use) hi.2.1 hi.2.2 hr).mono ?_⟩⟩
    rintro e w2 ⟨rfl, x2⟩
    refine ⟨_, _, _, _, _, rfl, fun w3 n3 => ⟨rfl, HB.can n3, fun w4 s4 => ?_⟩⟩
    obtain ⟨b4, y4⟩ := HB.made n3 s4
    have x04 := x1.trans (x2.trans y4)
    have a4 := h.ext x04
    cases hst : stT A A.use r with
    | none =>
      exact ⟨fun _ => ⟨rfl, a4, x04.toS⟩, fun h => (by cases h)⟩
    | some hd =>
      rw [hst] at b4 hok
      have hin2 := stT_in hst
      have m := hin2.2.1
      have ml := m.le
      have m0 : 0 ≤ hd.l := m.2.2.1
      obtain ⟨len, hlen'⟩ : ∃ n : Nat, hd.l = n := ⟨hd.l.toNat, by omega⟩
      refine ⟨fun h => (by cases h), fun _ => ⟨hd.l, b4.cell 2, _, a4.hd.cell 4, _, a4.hd.cell 0, _, a4.hd.cell 5, fun w5 q5 => ?_⟩⟩
      dsimp only at hok ⊢
      rw [hlen', Int.toNat_natCast] at hok ⊢
      rw [hlen', Int.toNat_natCast] at hin2
      have x05 := x04.trans q5.ext
      have a5 := h.ext x05
      have b5 := b4.ext q5.ext
      rw [wrap_i64 (n := (A.nxt.f : Int) + (A.n : Int)) (by omega) (by omega), wrap_i64 (n := (A.nxt.f : Int) + (A.n : Int) - (A.nxt.e : Int)) (by omega) (by omega), wrap_i64 (n := (len : Int) + 2) (by omega) (by omega)]
      refine ⟨fun h6 => ?_, fun h6 => ?_⟩
      · rw [if_pos (by omega)]; exact ⟨rfl, a5, x05.toS⟩
      have hfit : ¬ A.nxt.f + A.n - A.nxt.e < len + 2 := by omega
      rw [if_neg hfit] at hok ⊢
      intro w6 q6
      have x06 := x05.trans q6.ext
      have a6 := h.ext x06
      have b6 := b5.ext q6.ext
      refine ⟨fun _ => False, ⟨some ⟨b, 0, none⟩, A.ws.length, A.ws.length⟩, fun w' u => (a6.ext u).hd.cell 1, hd.l, fun w' u => (b6.ext u).cell 2, ?_⟩
      rw [hlen', wrap_i64 (n := (r : Int)) (by omega) (by omega), wrap_i64 (n := (r : Int) + (len : Int)) (by omega) (by omega), wrap_i64 (n := (r : Int) + (len : Int) + 1) (by omega) (by omega), show (r : Int) + (len : Int) + 1 = ((r - 1 + (len + 2) : Nat) : Int) by omega]
      refine ⟨by omega, by omega, by dsimp only; omega, fun w7 n7 => ⟨n7.ext, ?_⟩⟩
      simp only [Int.toNat_natCast]
      rw [if_neg (show ¬ A.ws.length = r - 1 by omega), show r - 1 + (len + 2) - (r - 1) = len + 2 by omega]
      simp only [Option.map_some, add_mk, Nat.zero_add]
      have a7 := a6.ext n7.ext
      have x07 := x06.trans n7.ext
      have o7 : Own w7 w6.heap.size 35 1 ⟨some ⟨w6.heap.size, 0, none⟩, 0, 0⟩ (uv []) := Own.lit (n := 0) n7 (Nat.le_refl _) rfl (by omega)
      have rd7 : Rd w7 1 ⟨some ⟨b, r - 1, none⟩, len + 2, A.ws.length - (r - 1)⟩ (uv ((A.ws.drop (r - 1)).take (len + 2))) := by
        have := a7.ws.rd (z := 1) (o := r - 1) (n := len + 2) (c := A.ws.length - (r - 1)) (by rw [uv_length]; omega)
        rw [Nat.mul_one] at this
        simpa only [uv, List.map_take, List.map_drop] using this
      have hsl : ((A.ws.drop (r - 1)).take (len + 2)).length = len + 2 := by rw [List.length_take, List.length_drop]; omega
      have hsx : ∀ y ∈ (A.ws.drop (r - 1)).take (len + 2), y < 18446744073709551616 := fun y hy => h.ok.lt y (List.mem_of_mem_drop (List.mem_of_mem_take hy))
      generalize (A.ws.drop (r - 1)).take (len + 2) = X at hok rd7 hsl hsx ⊢
      obtain ⟨r8, w8, hr8, hn8, o8, u8, _⟩ := o7.append (t := 38) (ty := 38) tab_ok (by rfl) (by rfl) (by decide) rd7 (uv_ones _) (by dsimp only; omega) (by dsimp only; omega) n7.ext.size
      have z06 := x06.size
      have x68 : Ext w6 w8 := n7.ext.fresh u8 fun k hk => by
        obtain ⟨p, hp, rfl⟩ := hk
        exact (o7.base p hp).1
      have x08 := x06.trans x68
      have a8 := h.ext x08
      have hbb := h.ws.lt
      refine ⟨r8, w8, hr8, _, _, rfl, ⟨a8.hd.cell 4, a8.hd.cell 5⟩, ⟨(lay_spec a8 A.nxt (xs := X) (show Rd w8 1 r8 (uv X) from o8.rd) (fun p hp => by have := (o8.base p hp).1; omega) (by omega) hsx).mono ?_⟩⟩
      rintro e w9 ⟨rfl, a9, u9⟩
      refine ⟨_, _, _, rfl, fun w10 n10 => ⟨rfl, (Blk.new n10).canSetN 0 2 (by simp), fun w11 s11 => ?_⟩⟩
      have k11 := s11.blk (i := 0) (Blk.new n10)
      simp only [setsL, List.set] at k11
      have z9 := u9.size
      have z8 := x08.size
      have x911 : Ext w9 w11 := n10.ext.fresh s11.upd (by rintro i rfl; exact Nat.le_refl _)
      have a11 := a9.ext x911
      refine ⟨_, _, rfl, ⟨k11.cell 0, k11.cell 1⟩, rfl, a11.hd.canSetN 4 2 (by simp), fun w12 s12 => ?_⟩
      have hd12 := s12.blk (i := 4) a11.hd
      simp only [setsL, List.set] at hd12
      have b12 := a11.ws.upd s12.upd (Ne.symm hne)
      have hll : (A.lay A.nxt.e X).ws.length = A.ws.length := layL_len (by omega)
      refine ⟨⟨some ⟨b, 0, none⟩, (A.lay A.nxt.e X).ws.length, (A.lay A.nxt.e X).ws.length⟩, hd12.cell 1, by omega, by dsimp only; omega, _, rfl, ?_, fun w13 s13 => ?_⟩
      · rw [add_mk, Nat.zero_add]
        exact b12.canSet _ (by rw [uv_length, hll]; omega)
      rw [add_mk, Nat.zero_add] at s13
      rw [wrap_u64 (n := 4 * ((A.nxt.e + 1 : Nat) : Int)) (by omega) (by omega), show 4 * ((A.nxt.e + 1 : Nat) : Int) = ((4 * (A.nxt.e + 1) : Nat) : Int) by omega] at s13
      have b13 := s13.blk1 b12
      rw [uv_set] at b13
      have hd13 := hd12.upd s13.upd hne
      refine ⟨rfl, ⟨hok, ?_, b13⟩, ?_⟩
      · dsimp only
        rw [List.length_set]
        rw [hsl] at hd13
        exact hd13
      · have U1 : Upd (fun k => k = b ∨ k = g) w w9 := x08.upd (u9.mono fun k _ hn e => hn (.inl e))
        exact ((U1.still' x911).one' s12.upd (.inr rfl)).one' s13.upd (.inl rfl)
end Go.Proofs.Ytggpomialmpgoaa.V
