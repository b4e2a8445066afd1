/-
  What stands in the document's arena.
-/
import Derived.Test.YtcmmdaginkhomaaAr3
namespace Go.Proofs.Ytcmmdaginkhomaa.V
open Go Go.RowKit
set_option linter.unusedVariables false
set_option linter.unusedSimpArgs false
set_option maxRecDepth 100000

theorem rin_spec {w : World} {b g : Nat} {A : Ar} (h : ArW 76 w b g A) {s : Sp} (hf0 : s.f ≤ 2 * A.n) (hs : s.e ≤ 2 * A.n) {r : Nat} (hr : r < 18446744073709551616) :
    Calls Try.prog 55 #[.pointer (some ⟨g, 0, none⟩), .agg #[.int .i64 (s.f : Nat), .int .i64 (s.e : Nat)], .int .u64 (r : Nat)] w fun e w' => e = .returned (hoV (stT A s r)) ∧ Ext w w' := by
  refine vc_55 _ _ _ _ _ _ ?_
  obtain ⟨ok, hb, ho⟩ := h
  let sl : Sl := ⟨some ⟨b, 0, none⟩, A.ws.length, A.ws.length⟩
  have hn := ok.n
  have hlen := ok.len
  have hsl : A.ws.length = sl.n := rfl
  simp only [eq_self, false_or, or_false, true_and, and_true, decide_eq_true_eq, decide_eq_false_iff_not, gd_st, gd_sf, exists_eq_left', exists_eq_left, Option.some.injEq, Sl.eta, Nat.reduceLeDiff, Int.reduceLE, Int.reduceLT, Int.reduceEq, Int.reduceNe, Nat.reduceMul, Nat.reduceAdd, Nat.reduceSub, Int.toNat_natCast, beq_iff_eq, bne_iff_ne, beq_eq_false_iff_ne, bne_eq_false_iff_eq, pick_and, pick_or, Bool.and_eq_true, Bool.or_eq_true, Bool.and_eq_false_iff, Bool.or_eq_false_iff, ne_eq, not_false_eq_true, Bool.not_eq_true', Bool.not_eq_false', reduceCtorEq, Nat.le_refl, Nat.zero_mul, Nat.mul_one, Nat.zero_add, Int.reduceToNat, ones, one, add_mk, Decidable.not_not, cond_true, cond_false, true_implies, false_implies, implies_true, Bool.not_true, Bool.not_false]
  intro w1 n1 w2 n2
  have k2 := (Blk.new n1).ext n2.ext
  have h2 := Blk.new n2
  have x02 : Ext w w2 := n1.ext.trans n2.ext
  have b2 := hb.ext x02
  have o2 := ho.ext x02
  have z1 := n1.ext.size
  have non : stT A s r = none → ∀ w', Blk w' w1.heap.size 24 (hdL hd0) → Ext w w' → CanSet w' ⟨w1.heap.size, 0, none⟩ 4 ∧ ∀ w'', SetW w' ⟨w1.heap.size, 0, none⟩ [.int .i64 0, .int .i64 0, .int .i64 0, .int .u64 0] w'' →
      ∃ n n_1 n_2 n_3, len' [Value.int .i64 n, .int .i64 n_1, .int .i64 n_2, .int .u64 n_3] = 4 ∧ (w''.cell? ⟨w1.heap.size, 0, none⟩ = some (.int .i64 n) ∧ w''.cell? ⟨w1.heap.size, 1, none⟩ = some (.int .i64 n_1) ∧ w''.cell? ⟨w1.heap.size, 2, none⟩ = some (.int .i64 n_2) ∧ w''.cell? ⟨w1.heap.size, 3, none⟩ = some (.int .u64 n_3)) ∧
        Ending.returned (.tuple #[.agg #[.int .i64 n, .int .i64 n_1, .int .i64 n_2, .int .u64 n_3], .bool false]) = .returned (hoV (stT A s r)) ∧ Ext w w'' := by
    intro hno w' hb' x'
    refine ⟨hb'.canSetN 0 4 (by simp), fun w'' s'' => ?_⟩
    have b5 : HB w'' w1.heap.size hd0 := HB.set hb' s''
    refine ⟨_, _, _, _, rfl, ⟨b5.cell 0, b5.cell 1, b5.cell 2, b5.cell 3⟩, by rw [hno]; rfl, x'.fresh s''.upd (by rintro i rfl; exact n1.ext.size)⟩
  simp only [k2.cell, List.getElem?_cons_zero, List.getElem?_cons_succ, ex_sl, Value.int.injEq, Value.bool.injEq, Value.pointer.injEq, Value.string.injEq, eq_self, false_or, or_false, true_and, and_true, decide_eq_true_eq, decide_eq_false_iff_not, gd_st, gd_sf, exists_eq_left', exists_eq_left, Option.some.injEq, Sl.eta, Nat.reduceLeDiff, Int.reduceLE, Int.reduceLT, Int.reduceEq, Int.reduceNe, Nat.reduceMul, Nat.reduceAdd, Nat.reduceSub, Int.toNat_natCast, beq_iff_eq, bne_iff_ne, beq_eq_false_iff_ne, bne_eq_false_iff_eq, pick_and, pick_or, Bool.and_eq_true, Bool.or_eq_true, Bool.and_eq_false_iff, Bool.or_eq_false_iff, ne_eq, not_false_eq_true, Bool.not_eq_true', Bool.not_eq_false', reduceCtorEq, Nat.le_refl, Nat.zero_mul, Nat.mul_one, Nat.zero_add, Int.reduceToNat, ones, one, add_mk, Decidable.not_not, cond_true, cond_false, true_implies, false_implies, implies_true, Bool.not_true, Bool.not_false]
  rw [wrap_u64 (n := (s.e : Int)) (by omega) (by omega), wrap_u64 (n := (s.f : Int)) (by omega) (by omega), wrap_u64 (n := (s.f : Int) + 1) (by omega) (by omega)]
  refine ⟨fun h1 => ⟨fun h3 => non (by unfold stT; rw [if_neg (by omega)]) w2 h2 x02, fun h3 => ?_⟩, fun h1 => non (by unfold stT; rw [if_neg (by omega)]) w2 h2 x02⟩
  have er : IntKind.i64.wrap (IntKind.i64.wrap (r : Int) - 1) = ((r - 1 : Nat) : Int) := by
    rw [wrap_i64 (n := (r : Int)) (by omega) (by omega), wrap_i64 (by omega) (by omega)]; omega
  rw [er]
  obtain ⟨p, x, hp, hx, hcx⟩ := o2.words.word (r - 1) (by show r - 1 < A.ws.length; omega)
  rw [Nat.mul_one] at hcx
  have hxl := ok.lt x (List.mem_of_getElem? hx)
  refine ⟨sl, b2.cell 1, by omega, by show ((r - 1 : Nat) : Int) < ((A.ws.length : Nat) : Int); omega, p, hp, x, hcx, ⟨(runpack_spec hxl w2).mono ?_⟩⟩
  rintro e w3 ⟨rfl, x3⟩
  have x03 := x02.trans x3
  refine ⟨_, _, _, _, _, rfl, fun w4 n4 => ⟨rfl, HB.can n4, fun w5 s5 => ?_⟩⟩
  obtain ⟨b5, y5⟩ := HB.made n4 s5
  have x35 := x3.trans y5
  have x05 := x02.trans x35
  have h5 := h2.ext x35
  have k5 := k2.ext x35
  have f5 := hb.ext x05
  have o5 := ho.ext x05
  have hst : r ≤ s.e → s.f < r → stT A s r = if mayT (unpT x) = true ∧ r - 1 + (unpT x).l.toNat + 2 ≤ s.e ∧ A.ws[r - 1 + (unpT x).l.toNat + 1]? = some (18446744073709551615 - x) then some (unpT x) else none := fun h6 h7 => by
    unfold stT; rw [if_pos ⟨h7, h6⟩, hx]
  by_cases hm : mayT (unpT x) = true
  rotate_left
  · have e2 : (unpO x).2 = false := by unfold unpO; rw [if_neg hm]
    rw [e2]
    refine ⟨fun h => (by cases h), fun _ w6 q6 => non ?_ w6 (h5.ext q6.ext) (x05.trans q6.ext)⟩
    rw [hst (by omega) (by omega), if_neg fun hh => hm hh.1]
  have e2 : (unpO x).2 = true := by unfold unpO; rw [if_pos hm]
  have e1 : (unpO x).1 = unpT x := by unfold unpO; rw [if_pos hm]
  rw [e1] at b5
  rw [e2]
  have m : MayT (unpT x) := of_decide_eq_true hm
  have ml := m.le
  have m0 : 0 ≤ (unpT x).l := m.2.2.1
  obtain ⟨len, hlen'⟩ : ∃ n : Nat, (unpT x).l = n := ⟨(unpT x).l.toNat, by omega⟩
  rw [hlen', Int.toNat_natCast] at hst
  refine ⟨fun _ => ⟨_, b5.cell 2, _, k5.cell 1, ?_⟩, fun h => (by cases h)⟩
  have el : IntKind.i64.wrap (IntKind.i64.wrap (((r - 1 : Nat) : Int) + (unpT x).l) + 2) = ((r - 1 + len + 2 : Nat) : Int) := by
    rw [hlen', wrap_i64 (n := ((r - 1 : Nat) : Int) + (len : Int)) (by omega) (by omega), wrap_i64 (by omega) (by omega)]; omega
  have el1 : IntKind.i64.wrap (IntKind.i64.wrap (((r - 1 : Nat) : Int) + (unpT x).l) + 1) = ((r - 1 + len + 1 : Nat) : Int) := by
    rw [hlen', wrap_i64 (n := ((r - 1 : Nat) : Int) + (len : Int)) (by omega) (by omega), wrap_i64 (by omega) (by omega)]; omega
  rw [el]
  refine ⟨fun h6 => ?_, fun h6 w6 q6 => non (by rw [hst (by omega) (by omega), if_neg (by omega)]) w6 (h5.ext q6.ext) (x05.trans q6.ext)⟩
  obtain ⟨p1, y, hp1, hy, hcy⟩ := o5.words.word (r - 1 + len + 1) (by show r - 1 + len + 1 < A.ws.length; omega)
  obtain ⟨p2, x', hp2, hx', hcx'⟩ := o5.words.word (r - 1) (by show r - 1 < A.ws.length; omega)
  rw [Nat.mul_one] at hcy hcx'
  rw [hx] at hx'; injection hx' with hx'; subst hx'
  refine ⟨sl, f5.cell 1, _, b5.cell 2, ?_⟩
  rw [el1]
  refine ⟨by omega, by show ((r - 1 + len + 1 : Nat) : Int) < ((A.ws.length : Nat) : Int); omega, p1, hp1, y, hcy, sl, f5.cell 1, by omega, by show ((r - 1 : Nat) : Int) < ((A.ws.length : Nat) : Int); omega, p2, hp2, x, hcx', fun w6 q6 => ?_⟩
  have x06 := x05.trans q6.ext
  have h6b := h5.ext q6.ext
  have b6 := b5.ext q6.ext
  rw [not_u64 hxl]
  refine ⟨fun hne => non ?_ w6 h6b x06, fun heq => ?_⟩
  · rw [hst (by omega) (by omega), if_neg ?_]
    rintro ⟨_, _, hh⟩
    rw [hy] at hh; injection hh with hh
    exact hne (by rw [hh])
  · refine ⟨_, _, _, _, rfl, ⟨b6.cell 0, b6.cell 1, b6.cell 2, b6.cell 3⟩, rfl, h6b.canSetN 0 4 (by simp), fun w7 s7 => ?_⟩
    have b7 : HB w7 w1.heap.size (unpT x) := HB.set h6b s7
    refine ⟨_, _, _, _, rfl, ⟨b7.cell 0, b7.cell 1, b7.cell 2, b7.cell 3⟩, rt ?_, x06.fresh s7.upd (by rintro i rfl; exact n1.ext.size)⟩
    rw [hst (by omega) (by omega), if_pos ⟨hm, by omega, by rw [hy]; congr 1; omega⟩]
    rfl
end Go.Proofs.Ytcmmdaginkhomaa.V
