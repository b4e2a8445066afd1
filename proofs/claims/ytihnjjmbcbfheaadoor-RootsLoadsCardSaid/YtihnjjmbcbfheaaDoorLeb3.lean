/-
  Package leb: the reader.
-/
import Derived.Test.YtihnjjmbcbfheaaDoorLeb1
namespace Go.Proofs.YtihnjjmbcbfheaaDoor.V
open Go Go.RowKit
set_option linter.unusedVariables false
set_option linter.unusedSimpArgs false

/-- where a reader is, its fault -/
structure RS where
  k : Nat
  pl : Int
  er : Int
def RS.fail (s : RS) (at_ e : Int) : RS := if s.er = 0 ∧ e ≠ 0 then ⟨s.k, at_, e⟩ else s
def RS.byte (bs : List Nat) (s : RS) : Nat × RS :=
  if s.er ≠ 0 then (0, s) else if s.k < bs.length then (bs.getD s.k 0, ⟨s.k + 1, s.pl, s.er⟩) else (0, ⟨s.k, s.k, 2⟩)
/-- a reader in block g: its bytes, its place, its fault -/
structure Rdr (w : World) (B g : Nat) (bs : List Nat) (s : RS) (sl : Sl) : Prop where
  blk : Blk w g 87 [.slice sl.a sl.n sl.c, .int .i64 s.k, .int .i64 s.pl, .int .i64 s.er]
  own : Own w B 5 1 sl (bv bs)
  off : ∀ p, sl.a = some p → p.block ≠ g
  base : B ≤ g
  fit : bs.length ≤ 140737488355328
  pos : s.k ≤ bs.length
  byt : ∀ x ∈ bs, x < 256
section
variable {w w' : World} {B g : Nat} {bs : List Nat} {s s' : RS} {sl : Sl} {S : Nat → Prop}
theorem Rdr.upd (h : Rdr w B g bs s sl) (u : Upd S w w') (hg : ¬ S g) (hs : sl.off S) : Rdr w' B g bs s sl :=
  ⟨h.blk.upd u hg, h.own.upd u hs, h.off, h.base, h.fit, h.pos, h.byt⟩
theorem Rdr.ext (h : Rdr w B g bs s sl) (u : Ext w w') : Rdr w' B g bs s sl := h.upd u not_false fun _ _ => not_false
theorem Rdr.len (h : Rdr w B g bs s sl) : sl.n = bs.length := by simpa using h.own.len1.symm
theorem Rdr.turn (h : Rdr w B g bs s sl) (u : Upd (· = g) w w') (hb : Blk w' g 87 [.slice sl.a sl.n sl.c, .int .i64 s'.k, .int .i64 s'.pl, .int .i64 s'.er]) (hp : s'.k ≤ bs.length) : Rdr w' B g bs s' sl :=
  ⟨hb, h.own.upd u fun p hp he => h.off p hp he, h.off, h.base, h.fit, hp, h.byt⟩
end

theorem newreader_spec (s : Sl) (xs : List Nat) (w : World) (hr : Rd w 1 s (bv xs)) (hl : s.n ≤ 140737488355328) (h8 : ∀ x ∈ xs, x < 256) :
    Calls Tryd.prog 12 #[.slice s.a s.n s.c] w fun e w' =>
      ∃ (g : Nat) (sl : Sl), e = .returned (.pointer (some ⟨g, 0, none⟩)) ∧ Rdr w' w.heap.size g xs ⟨0, 0, 0⟩ sl ∧ Ext w w' := by
  refine vc_12 _ _ _ ?_
  simp only [eq_self, false_or, or_false, true_and, and_true, decide_eq_true_eq, decide_eq_false_iff_not, gd_st, gd_sf, exists_eq_left', exists_eq_left, Option.some.injEq, Sl.eta, Nat.reduceLeDiff, Int.reduceLE, Int.reduceLT, Int.reduceEq, Int.reduceNe, Nat.reduceMul, Nat.reduceAdd, Nat.reduceSub, Int.toNat_natCast, beq_iff_eq, bne_iff_ne, beq_eq_false_iff_ne, bne_eq_false_iff_eq, pick_and, pick_or, Bool.and_eq_true, Bool.or_eq_true, Bool.and_eq_false_iff, Bool.or_eq_false_iff, ne_eq, not_false_eq_true, Bool.not_eq_true', Bool.not_eq_false', reduceCtorEq, Nat.le_refl, Nat.zero_mul, Nat.mul_one, Nat.zero_add, Int.reduceToNat, ones, one, add_mk, Decidable.not_not, cond_true, cond_false, true_implies, false_implies, implies_true, Bool.not_true, Bool.not_false]
  obtain ⟨r, w2, hap, hrn, ho2, hu2, _⟩ := (Own.nil w w.heap.size 5 1).append (t := 22) (ty := 22) tab_ok rfl rfl (by decide) hr (bv_ones xs) (by simp; omega) (by simp; omega) (Nat.le_refl _)
  have hx2 : Ext w w2 := hu2.mono fun k _ _ => by rintro ⟨p, hp, _⟩; cases hp
  refine ⟨r, w2, hap, fun w3 h3 => ⟨w2.heap.size, r, rfl, ⟨Blk.new h3, ?_, ?_, hx2.size, ?_, Nat.zero_le _, h8⟩, hx2.trans h3.ext⟩⟩
  · simpa using ho2.ext h3.ext
  · intro p hp he
    have := (ho2.base p hp).2
    omega
  · have := hr.lenb; omega

section
variable {w : World} {B g : Nat} {bs : List Nat} {s : RS} {sl : Sl}
theorem fail_spec (at_ e : Int) (h : Rdr w B g bs s sl) :
    Calls Tryd.prog 16 #[.pointer (some ⟨g, 0, none⟩), .int .i64 at_, .int .i64 e] w fun en w' =>
      en = .returned (.tuple #[]) ∧ Rdr w' B g bs (s.fail at_ e) sl ∧ Upd (· = g) w w' := by
  refine vc_16 _ _ _ _ _ ?_
  have hb := h.blk
  simp only [eq_self, false_or, or_false, true_and, and_true, decide_eq_true_eq, decide_eq_false_iff_not, gd_st, gd_sf, exists_eq_left', exists_eq_left, Option.some.injEq, Sl.eta, Nat.reduceLeDiff, Int.reduceLE, Int.reduceLT, Int.reduceEq, Int.reduceNe, Nat.reduceMul, Nat.reduceAdd, Nat.reduceSub, Int.toNat_natCast, beq_iff_eq, bne_iff_ne, beq_eq_false_iff_ne, bne_eq_false_iff_eq, pick_and, pick_or, Bool.and_eq_true, Bool.or_eq_true, Bool.and_eq_false_iff, Bool.or_eq_false_iff, ne_eq, not_false_eq_true, Bool.not_eq_true', Bool.not_eq_false', reduceCtorEq, Nat.le_refl, Nat.zero_mul, Nat.mul_one, Nat.zero_add, Int.reduceToNat, ones, one, add_mk, Decidable.not_not, cond_true, cond_false, true_implies, false_implies, implies_true, Bool.not_true, Bool.not_false]
  simp only [hb.cell, List.getElem?_cons_zero, List.getElem?_cons_succ, ex_sl, Value.int.injEq, Value.bool.injEq, Value.pointer.injEq, Value.string.injEq, eq_self, false_or, or_false, true_and, and_true, decide_eq_true_eq, decide_eq_false_iff_not, gd_st, gd_sf, exists_eq_left', exists_eq_left, Option.some.injEq, Sl.eta, Nat.reduceLeDiff, Int.reduceLE, Int.reduceLT, Int.reduceEq, Int.reduceNe, Nat.reduceMul, Nat.reduceAdd, Nat.reduceSub, Int.toNat_natCast, beq_iff_eq, bne_iff_ne, beq_eq_false_iff_ne, bne_eq_false_iff_eq, pick_and, pick_or, Bool.and_eq_true, Bool.or_eq_true, Bool.and_eq_false_iff, Bool.or_eq_false_iff, ne_eq, not_false_eq_true, Bool.not_eq_true', Bool.not_eq_false', reduceCtorEq, Nat.le_refl, Nat.zero_mul, Nat.mul_one, Nat.zero_add, Int.reduceToNat, ones, one, add_mk, Decidable.not_not, cond_true, cond_false, true_implies, false_implies, implies_true, Bool.not_true, Bool.not_false]
  refine ⟨fun h0 => ⟨fun he => ⟨hb.canSet 2 (by simp), fun w1 h1 => ?_⟩, fun he => ?_⟩, fun h0 => ?_⟩
  · have hb1 := h1.blk1 hb
    refine ⟨hb1.canSet 3 (by simp), fun w2 h2 => ?_⟩
    have hb2 := h2.blk1 hb1
    have hu := h1.upd.same h2.upd
    rw [RS.fail, if_pos ⟨h0, he⟩]
    exact ⟨h.turn hu hb2 h.pos, hu⟩
  · rw [RS.fail, if_neg (by simp [he])]
    exact ⟨h, .refl _ _⟩
  · rw [RS.fail, if_neg (by simp [h0])]
    exact ⟨h, .refl _ _⟩
theorem fault_spec (h : Rdr w B g bs s sl) :
    Calls Tryd.prog 18 #[.pointer (some ⟨g, 0, none⟩)] w fun en w' =>
      en = .returned (.tuple #[.int .i64 s.pl, .int .i64 s.er]) ∧ Qt w w' := by
  refine vc_18 _ _ _ ?_
  have hb := h.blk
  simp only [eq_self, false_or, or_false, true_and, and_true, decide_eq_true_eq, decide_eq_false_iff_not, gd_st, gd_sf, exists_eq_left', exists_eq_left, Option.some.injEq, Sl.eta, Nat.reduceLeDiff, Int.reduceLE, Int.reduceLT, Int.reduceEq, Int.reduceNe, Nat.reduceMul, Nat.reduceAdd, Nat.reduceSub, Int.toNat_natCast, beq_iff_eq, bne_iff_ne, beq_eq_false_iff_ne, bne_eq_false_iff_eq, pick_and, pick_or, Bool.and_eq_true, Bool.or_eq_true, Bool.and_eq_false_iff, Bool.or_eq_false_iff, ne_eq, not_false_eq_true, Bool.not_eq_true', Bool.not_eq_false', reduceCtorEq, Nat.le_refl, Nat.zero_mul, Nat.mul_one, Nat.zero_add, Int.reduceToNat, ones, one, add_mk, Decidable.not_not, cond_true, cond_false, true_implies, false_implies, implies_true, Bool.not_true, Bool.not_false]
  simp only [hb.cell, List.getElem?_cons_zero, List.getElem?_cons_succ, ex_sl, Value.int.injEq, Value.bool.injEq, Value.pointer.injEq, Value.string.injEq, eq_self, false_or, or_false, true_and, and_true, decide_eq_true_eq, decide_eq_false_iff_not, gd_st, gd_sf, exists_eq_left', exists_eq_left, Option.some.injEq, Sl.eta, Nat.reduceLeDiff, Int.reduceLE, Int.reduceLT, Int.reduceEq, Int.reduceNe, Nat.reduceMul, Nat.reduceAdd, Nat.reduceSub, Int.toNat_natCast, beq_iff_eq, bne_iff_ne, beq_eq_false_iff_ne, bne_eq_false_iff_eq, pick_and, pick_or, Bool.and_eq_true, Bool.or_eq_true, Bool.and_eq_false_iff, Bool.or_eq_false_iff, ne_eq, not_false_eq_true, Bool.not_eq_true', Bool.not_eq_false', reduceCtorEq, Nat.le_refl, Nat.zero_mul, Nat.mul_one, Nat.zero_add, Int.reduceToNat, ones, one, add_mk, Decidable.not_not, cond_true, cond_false, true_implies, false_implies, implies_true, Bool.not_true, Bool.not_false]
  exact fun _ h => h
theorem at_spec (h : Rdr w B g bs s sl) :
    Calls Tryd.prog 17 #[.pointer (some ⟨g, 0, none⟩)] w fun en w' =>
      en = .returned (.int .i64 s.k) ∧ Qt w w' := by
  refine vc_17 _ _ _ ?_
  have hb := h.blk
  simp only [eq_self, false_or, or_false, true_and, and_true, decide_eq_true_eq, decide_eq_false_iff_not, gd_st, gd_sf, exists_eq_left', exists_eq_left, Option.some.injEq, Sl.eta, Nat.reduceLeDiff, Int.reduceLE, Int.reduceLT, Int.reduceEq, Int.reduceNe, Nat.reduceMul, Nat.reduceAdd, Nat.reduceSub, Int.toNat_natCast, beq_iff_eq, bne_iff_ne, beq_eq_false_iff_ne, bne_eq_false_iff_eq, pick_and, pick_or, Bool.and_eq_true, Bool.or_eq_true, Bool.and_eq_false_iff, Bool.or_eq_false_iff, ne_eq, not_false_eq_true, Bool.not_eq_true', Bool.not_eq_false', reduceCtorEq, Nat.le_refl, Nat.zero_mul, Nat.mul_one, Nat.zero_add, Int.reduceToNat, ones, one, add_mk, Decidable.not_not, cond_true, cond_false, true_implies, false_implies, implies_true, Bool.not_true, Bool.not_false]
  simp only [hb.cell, List.getElem?_cons_zero, List.getElem?_cons_succ, ex_sl, Value.int.injEq, Value.bool.injEq, Value.pointer.injEq, Value.string.injEq, eq_self, false_or, or_false, true_and, and_true, decide_eq_true_eq, decide_eq_false_iff_not, gd_st, gd_sf, exists_eq_left', exists_eq_left, Option.some.injEq, Sl.eta, Nat.reduceLeDiff, Int.reduceLE, Int.reduceLT, Int.reduceEq, Int.reduceNe, Nat.reduceMul, Nat.reduceAdd, Nat.reduceSub, Int.toNat_natCast, beq_iff_eq, bne_iff_ne, beq_eq_false_iff_ne, bne_eq_false_iff_eq, pick_and, pick_or, Bool.and_eq_true, Bool.or_eq_true, Bool.and_eq_false_iff, Bool.or_eq_false_iff, ne_eq, not_false_eq_true, Bool.not_eq_true', Bool.not_eq_false', reduceCtorEq, Nat.le_refl, Nat.zero_mul, Nat.mul_one, Nat.zero_add, Int.reduceToNat, ones, one, add_mk, Decidable.not_not, cond_true, cond_false, true_implies, false_implies, implies_true, Bool.not_true, Bool.not_false]
  exact Qt.refl w
theorem left_spec (h : Rdr w B g bs s sl) :
    Calls Tryd.prog 15 #[.pointer (some ⟨g, 0, none⟩)] w fun en w' =>
      en = .returned (.int .i64 ((bs.length : Int) - s.k)) ∧ Qt w w' := by
  refine vc_15 _ _ _ ?_
  have hb := h.blk
  have hl := h.len
  have hf := h.fit
  have hp := h.pos
  simp only [eq_self, false_or, or_false, true_and, and_true, decide_eq_true_eq, decide_eq_false_iff_not, gd_st, gd_sf, exists_eq_left', exists_eq_left, Option.some.injEq, Sl.eta, Nat.reduceLeDiff, Int.reduceLE, Int.reduceLT, Int.reduceEq, Int.reduceNe, Nat.reduceMul, Nat.reduceAdd, Nat.reduceSub, Int.toNat_natCast, beq_iff_eq, bne_iff_ne, beq_eq_false_iff_ne, bne_eq_false_iff_eq, pick_and, pick_or, Bool.and_eq_true, Bool.or_eq_true, Bool.and_eq_false_iff, Bool.or_eq_false_iff, ne_eq, not_false_eq_true, Bool.not_eq_true', Bool.not_eq_false', reduceCtorEq, Nat.le_refl, Nat.zero_mul, Nat.mul_one, Nat.zero_add, Int.reduceToNat, ones, one, add_mk, Decidable.not_not, cond_true, cond_false, true_implies, false_implies, implies_true, Bool.not_true, Bool.not_false]
  simp only [hb.cell, List.getElem?_cons_zero, List.getElem?_cons_succ, ex_sl, Value.int.injEq, Value.bool.injEq, Value.pointer.injEq, Value.string.injEq, eq_self, false_or, or_false, true_and, and_true, decide_eq_true_eq, decide_eq_false_iff_not, gd_st, gd_sf, exists_eq_left', exists_eq_left, Option.some.injEq, Sl.eta, Nat.reduceLeDiff, Int.reduceLE, Int.reduceLT, Int.reduceEq, Int.reduceNe, Nat.reduceMul, Nat.reduceAdd, Nat.reduceSub, Int.toNat_natCast, beq_iff_eq, bne_iff_ne, beq_eq_false_iff_ne, bne_eq_false_iff_eq, pick_and, pick_or, Bool.and_eq_true, Bool.or_eq_true, Bool.and_eq_false_iff, Bool.or_eq_false_iff, ne_eq, not_false_eq_true, Bool.not_eq_true', Bool.not_eq_false', reduceCtorEq, Nat.le_refl, Nat.zero_mul, Nat.mul_one, Nat.zero_add, Int.reduceToNat, ones, one, add_mk, Decidable.not_not, cond_true, cond_false, true_implies, false_implies, implies_true, Bool.not_true, Bool.not_false]
  rw [hl, wrap_i64 (by omega) (by omega)]
  exact fun w' h => ⟨rfl, h⟩
end
end Go.Proofs.YtihnjjmbcbfheaaDoor.V
