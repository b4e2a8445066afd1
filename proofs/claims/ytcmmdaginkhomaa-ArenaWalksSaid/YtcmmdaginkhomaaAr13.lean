/-
  After.
-/
import Derived.Test.YtcmmdaginkhomaaAr12
namespace Go.Proofs.Ytcmmdaginkhomaa.V
open Go Go.RowKit
set_option linter.unusedVariables false
set_option linter.unusedSimpArgs false
set_option maxRecDepth 100000

/-- the space that objects come behind one another in -/
def spT (A : Ar) : Sp := if A.opn = true then A.nxt else A.use
def lastT (A : Ar) (nx : Nat) : Nat × Bool :=
  match stT A (spT A) nx with
  | some _ => (nx, true)
  | none => (0, false)
def afterT (A : Ar) (r : Nat) : Nat × Bool :=
  if r = 0 then lastT A ((spT A).f + 1)
  else match stT A (spT A) r with
    | some h => lastT A (r + h.l.toNat + 2)
    | none => (0, false)
theorem after_spec {w : World} {b g : Nat} {A : Ar} (h : ArW 92 w b g A) {r : Nat} (hr : r < 18446744073709551616) :
    Calls Try.prog 33 #[.pointer (some ⟨g, 0, none⟩), .int .u64 (r : Nat)] w fun e w' => e = .returned (.tuple #[.int .u64 ((afterT A r).1 : Nat), .bool (afterT A r).2]) ∧ Ext w w' := by
  refine vc_33 _ _ _ _ ?_
  have hi := h.ok.useIn; have h1 := h.ok.use1; have h2 := h.ok.nxtIn
  have hn := h.ok.n; have hlen := h.ok.len
  simp only [eq_self, false_or, or_false, true_and, and_true, decide_eq_true_eq, decide_eq_false_iff_not, gd_st, gd_sf, exists_eq_left', exists_eq_left, Option.some.injEq, Sl.eta, Nat.reduceLeDiff, Int.reduceLE, Int.reduceLT, Int.reduceEq, Int.reduceNe, Nat.reduceMul, Nat.reduceAdd, Nat.reduceSub, Int.toNat_natCast, beq_iff_eq, bne_iff_ne, beq_eq_false_iff_ne, bne_eq_false_iff_eq, pick_and, pick_or, Bool.and_eq_true, Bool.or_eq_true, Bool.and_eq_false_iff, Bool.or_eq_false_iff, ne_eq, not_false_eq_true, Bool.not_eq_true', Bool.not_eq_false', reduceCtorEq, Nat.le_refl, Nat.zero_mul, Nat.mul_one, Nat.zero_add, Int.reduceToNat, ones, one, add_mk, Decidable.not_not, cond_true, cond_false, true_implies, false_implies, implies_true, Bool.not_true, Bool.not_false]
  refine ⟨_, _, rfl, ⟨h.hd.cell 2, h.hd.cell 3⟩, fun w1 n1 => ⟨rfl, (Blk.new n1).canSetN 0 2 (by simp), fun w2 s2 => ?_⟩⟩
  have k2 := s2.blk (i := 0) (Blk.new n1)
  simp only [setsL, List.set] at k2
  have x02 : Ext w w2 := n1.ext.fresh s2.upd (by rintro i rfl; exact Nat.le_refl _)
  have a2 := h.ext x02
  refine ⟨fun w' => Ext w w' ∧ Blk w' w.heap.size 90 [.int .i64 ((spT A).f : Nat), .int .i64 ((spT A).e : Nat)], ⟨A.opn, a2.hd.cell 6, fun ho => ⟨_, _, rfl, ⟨a2.hd.cell 4, a2.hd.cell 5⟩, rfl, k2.canSetN 0 2 (by simp), fun w3 s3 => ?_⟩, fun ho => ?_⟩, ?_⟩
  · have k3 := s3.blk (i := 0) k2
    simp only [setsL, List.set] at k3
    refine ⟨x02.fresh s3.upd (by rintro i rfl; exact Nat.le_refl _), ?_⟩
    unfold spT; rw [if_pos ho]; exact k3
  · refine ⟨x02, ?_⟩
    unfold spT; rw [if_neg (by rw [ho]; decide)]; exact k2
  rintro _ w3 ⟨x3, k3⟩
  have hs : (spT A).f ≤ 2 * A.n ∧ (spT A).e ≤ 2 * A.n := by unfold spT; split <;> omega
  have a3 := h.ext x3
  refine ⟨_, k3.cell 0, fun n w' => ∃ nx : Nat, n = nx ∧ nx < 18446744073709551616 ∧ afterT A r = lastT A nx ∧ Ext w w' ∧ Blk w' w.heap.size 90 [.int .i64 ((spT A).f : Nat), .int .i64 ((spT A).e : Nat)], ⟨fun h0 => ?_, fun h0 => ?_⟩, ?_⟩
  · refine ⟨_, _, rfl, ⟨k3.cell 0, k3.cell 1⟩, ⟨(in_spec a3 (s := spT A) hs.1 hs.2 hr).mono ?_⟩⟩
    rintro e w4 ⟨rfl, x4⟩
    refine ⟨_, _, _, _, _, rfl, fun w5 n5 => ⟨rfl, HB.can n5, fun w6 s6 => ?_⟩⟩
    obtain ⟨b6, y6⟩ := HB.made n5 s6
    have x36 := x4.trans y6
    cases hst : stT A (spT A) r with
    | none =>
      refine ⟨fun _ => ⟨?_, x3.trans x36⟩, fun h => (by cases h)⟩
      unfold afterT; rw [if_neg (by omega), hst]; rfl
    | some hd =>
      rw [hst] at b6
      have hin := stT_in hst
      have ml := hin.2.1.le
      have m0 : 0 ≤ hd.l := hin.2.1.2.2.1
      refine ⟨fun h => (by cases h), fun _ => ⟨hd.l, b6.cell 2, r + hd.l.toNat + 2, ?_, by omega, ?_, x3.trans x36, k3.ext x36⟩⟩
      · rw [wrap_u64 (n := hd.l) (by omega) (by omega), wrap_u64 (n := (r : Int) + hd.l) (by omega) (by omega), wrap_u64 (by omega) (by omega)]; omega
      · unfold afterT; rw [if_neg (by omega), hst]
  · refine ⟨(spT A).f + 1, ?_, by omega, ?_, x3, k3⟩
    · rw [wrap_u64 (n := ((spT A).f : Int)) (by omega) (by omega), wrap_u64 (by omega) (by omega)]; omega
    · unfold afterT; rw [if_pos (by omega)]
  · rintro _ _ w4 ⟨nx, rfl, hnx, ha, x4, k4⟩
    have a4 := h.ext x4
    refine ⟨_, _, rfl, ⟨k4.cell 0, k4.cell 1⟩, ⟨(in_spec a4 (s := spT A) hs.1 hs.2 hnx).mono ?_⟩⟩
    rintro e w5 ⟨rfl, x5⟩
    refine ⟨_, _, _, _, _, rfl, fun w6 n6 => ⟨rfl, HB.can n6, fun w7 s7 => ?_⟩⟩
    obtain ⟨b7, y7⟩ := HB.made n6 s7
    have x7 := x4.trans (x5.trans y7)
    rw [ha]
    unfold lastT
    cases hst : stT A (spT A) nx with
    | none => exact ⟨fun _ => ⟨rfl, x7⟩, fun h => (by cases h)⟩
    | some hd => exact ⟨fun h => (by cases h), fun _ => ⟨rfl, x7⟩⟩
theorem rafter_spec {w : World} {b g : Nat} {A : Ar} (h : ArW 76 w b g A) {r : Nat} (hr : r < 18446744073709551616) :
    Calls Try.prog 59 #[.pointer (some ⟨g, 0, none⟩), .int .u64 (r : Nat)] w fun e w' => e = .returned (.tuple #[.int .u64 ((afterT A r).1 : Nat), .bool (afterT A r).2]) ∧ Ext w w' := by
  refine vc_59 _ _ _ _ ?_
  have hi := h.ok.useIn; have h1 := h.ok.use1; have h2 := h.ok.nxtIn
  have hn := h.ok.n; have hlen := h.ok.len
  simp only [eq_self, false_or, or_false, true_and, and_true, decide_eq_true_eq, decide_eq_false_iff_not, gd_st, gd_sf, exists_eq_left', exists_eq_left, Option.some.injEq, Sl.eta, Nat.reduceLeDiff, Int.reduceLE, Int.reduceLT, Int.reduceEq, Int.reduceNe, Nat.reduceMul, Nat.reduceAdd, Nat.reduceSub, Int.toNat_natCast, beq_iff_eq, bne_iff_ne, beq_eq_false_iff_ne, bne_eq_false_iff_eq, pick_and, pick_or, Bool.and_eq_true, Bool.or_eq_true, Bool.and_eq_false_iff, Bool.or_eq_false_iff, ne_eq, not_false_eq_true, Bool.not_eq_true', Bool.not_eq_false', reduceCtorEq, Nat.le_refl, Nat.zero_mul, Nat.mul_one, Nat.zero_add, Int.reduceToNat, ones, one, add_mk, Decidable.not_not, cond_true, cond_false, true_implies, false_implies, implies_true, Bool.not_true, Bool.not_false]
  refine ⟨_, _, rfl, ⟨h.hd.cell 2, h.hd.cell 3⟩, fun w1 n1 => ⟨rfl, (Blk.new n1).canSetN 0 2 (by simp), fun w2 s2 => ?_⟩⟩
  have k2 := s2.blk (i := 0) (Blk.new n1)
  simp only [setsL, List.set] at k2
  have x02 : Ext w w2 := n1.ext.fresh s2.upd (by rintro i rfl; exact Nat.le_refl _)
  have a2 := h.ext x02
  refine ⟨fun w' => Ext w w' ∧ Blk w' w.heap.size 74 [.int .i64 ((spT A).f : Nat), .int .i64 ((spT A).e : Nat)], ⟨A.opn, a2.hd.cell 6, fun ho => ⟨_, _, rfl, ⟨a2.hd.cell 4, a2.hd.cell 5⟩, rfl, k2.canSetN 0 2 (by simp), fun w3 s3 => ?_⟩, fun ho => ?_⟩, ?_⟩
  · have k3 := s3.blk (i := 0) k2
    simp only [setsL, List.set] at k3
    refine ⟨x02.fresh s3.upd (by rintro i rfl; exact Nat.le_refl _), ?_⟩
    unfold spT; rw [if_pos ho]; exact k3
  · refine ⟨x02, ?_⟩
    unfold spT; rw [if_neg (by rw [ho]; decide)]; exact k2
  rintro _ w3 ⟨x3, k3⟩
  have hs : (spT A).f ≤ 2 * A.n ∧ (spT A).e ≤ 2 * A.n := by unfold spT; split <;> omega
  have a3 := h.ext x3
  refine ⟨_, k3.cell 0, fun n w' => ∃ nx : Nat, n = nx ∧ nx < 18446744073709551616 ∧ afterT A r = lastT A nx ∧ Ext w w' ∧ Blk w' w.heap.size 74 [.int .i64 ((spT A).f : Nat), .int .i64 ((spT A).e : Nat)], ⟨fun h0 => ?_, fun h0 => ?_⟩, ?_⟩
  · refine ⟨_, _, rfl, ⟨k3.cell 0, k3.cell 1⟩, ⟨(rin_spec a3 (s := spT A) hs.1 hs.2 hr).mono ?_⟩⟩
    rintro e w4 ⟨rfl, x4⟩
    refine ⟨_, _, _, _, _, rfl, fun w5 n5 => ⟨rfl, HB.can n5, fun w6 s6 => ?_⟩⟩
    obtain ⟨b6, y6⟩ := HB.made n5 s6
    have x36 := x4.trans y6
    cases hst : stT A (spT A) r with
    | none =>
      refine ⟨fun _ => ⟨?_, x3.trans x36⟩, fun h => (by cases h)⟩
      unfold afterT; rw [if_neg (by omega), hst]; rfl
    | some hd =>
      rw [hst] at b6
      have hin := stT_in hst
      have ml := hin.2.1.le
      have m0 : 0 ≤ hd.l := hin.2.1.2.2.1
      refine ⟨fun h => (by cases h), fun _ => ⟨hd.l, b6.cell 2, r + hd.l.toNat + 2, ?_, by omega, ?_, x3.trans x36, k3.ext x36⟩⟩
      · rw [wrap_u64 (n := hd.l) (by omega) (by omega), wrap_u64 (n := (r : Int) + hd.l) (by omega) (by omega), wrap_u64 (by omega) (by omega)]; omega
      · unfold afterT; rw [if_neg (by omega), hst]
  · refine ⟨(spT A).f + 1, ?_, by omega, ?_, x3, k3⟩
    · rw [wrap_u64 (n := ((spT A).f : Int)) (by omega) (by omega), wrap_u64 (by omega) (by omega)]; omega
    · unfold afterT; rw [if_pos (by omega)]
  · rintro _ _ w4 ⟨nx, rfl, hnx, ha, x4, k4⟩
    have a4 := h.ext x4
    refine ⟨_, _, rfl, ⟨k4.cell 0, k4.cell 1⟩, ⟨(rin_spec a4 (s := spT A) hs.1 hs.2 hnx).mono ?_⟩⟩
    rintro e w5 ⟨rfl, x5⟩
    refine ⟨_, _, _, _, _, rfl, fun w6 n6 => ⟨rfl, HB.can n6, fun w7 s7 => ?_⟩⟩
    obtain ⟨b7, y7⟩ := HB.made n6 s7
    have x7 := x4.trans (x5.trans y7)
    rw [ha]
    unfold lastT
    cases hst : stT A (spT A) nx with
    | none => exact ⟨fun _ => ⟨rfl, x7⟩, fun h => (by cases h)⟩
    | some hd => exact ⟨fun h => (by cases h), fun _ => ⟨rfl, x7⟩⟩
end Go.Proofs.Ytcmmdaginkhomaa.V
