/-
  The document's reader: it does what the program's does.
-/
import Derived.Test.YtihnjjmbcbfheaaDoorLebO
import Derived.Test.YtihnjjmbcbfheaaDoorVcB
namespace Go.Proofs.YtihnjjmbcbfheaaDoor.V
open Go Go.RowKit
set_option linter.unusedVariables false
set_option linter.unusedSimpArgs false

/-- kept from omega's sight -/
def Hid (p : Prop) : Prop := p
/-- the document's reader in block g -/
structure RRd (w : World) (B g : Nat) (bs : List Nat) (s : RS) (sl : Sl) : Prop where
  blk : Blk w g 61 [.slice sl.a sl.n sl.c, .int .i64 s.k, .int .i64 s.pl, .int .i64 s.er]
  own : Own w B 5 1 sl (bv bs)
  off : ∀ p, sl.a = some p → p.block ≠ g
  base : B ≤ g
  fit : bs.length ≤ 140737488355328
  pos : s.k ≤ bs.length
  byt : ∀ x ∈ bs, x < 256
section
variable {w w' : World} {B g : Nat} {bs : List Nat} {s s' : RS} {sl : Sl} {S : Nat → Prop}
theorem RRd.upd (h : RRd w B g bs s sl) (u : Upd S w w') (hg : ¬ S g) (hs : sl.off S) : RRd w' B g bs s sl :=
  ⟨h.blk.upd u hg, h.own.upd u hs, h.off, h.base, h.fit, h.pos, h.byt⟩
theorem RRd.ext (h : RRd w B g bs s sl) (u : Ext w w') : RRd w' B g bs s sl := h.upd u not_false fun _ _ => not_false
theorem RRd.len (h : RRd w B g bs s sl) : sl.n = bs.length := by simpa using h.own.len1.symm
theorem RRd.turn (h : RRd w B g bs s sl) (u : Upd (· = g) w w') (hb : Blk w' g 61 [.slice sl.a sl.n sl.c, .int .i64 s'.k, .int .i64 s'.pl, .int .i64 s'.er]) (hp : s'.k ≤ bs.length) : RRd w' B g bs s' sl :=
  ⟨hb, h.own.upd u fun p hp he => h.off p hp he, h.off, h.base, h.fit, hp, h.byt⟩
end
theorem rnewreader_spec (s : Sl) (xs : List Nat) (w : World) (hr : Rd w 1 s (bv xs)) (hl : s.n ≤ 140737488355328) (h8 : ∀ x ∈ xs, x < 256) :
    Calls Tryd.prog 19 #[.slice s.a s.n s.c] w fun e w' =>
      ∃ (g : Nat) (sl : Sl), e = .returned (.pointer (some ⟨g, 0, none⟩)) ∧ RRd w' w.heap.size g xs ⟨0, 0, 0⟩ sl ∧ Ext w w' := by
  refine vc_19 _ _ _ ?_
  simp only [eq_self, false_or, or_false, true_and, and_true, decide_eq_true_eq, decide_eq_false_iff_not, gd_st, gd_sf, exists_eq_left', exists_eq_left, Option.some.injEq, Sl.eta, Nat.reduceLeDiff, Int.reduceLE, Int.reduceLT, Int.reduceEq, Int.reduceNe, Nat.reduceMul, Nat.reduceAdd, Nat.reduceSub, Int.toNat_natCast, beq_iff_eq, bne_iff_ne, beq_eq_false_iff_ne, bne_eq_false_iff_eq, pick_and, pick_or, Bool.and_eq_true, Bool.or_eq_true, Bool.and_eq_false_iff, Bool.or_eq_false_iff, ne_eq, not_false_eq_true, Bool.not_eq_true', Bool.not_eq_false', reduceCtorEq, Nat.le_refl, Nat.zero_mul, Nat.mul_one, Nat.zero_add, Int.reduceToNat, ones, one, add_mk, Decidable.not_not, cond_true, cond_false, true_implies, false_implies, implies_true, Bool.not_true, Bool.not_false]
  intro w1 h1
  have ho1 : Own w1 w.heap.size 5 1 ⟨some ⟨w.heap.size, 0, none⟩, 0, 0⟩ (bv []) := Own.lit (cs := []) h1 (Nat.le_refl _) rfl (by omega)
  obtain ⟨r, w2, hap, hrn, ho2, hu2, _⟩ := ho1.append (t := 22) (ty := 22) tab_ok rfl rfl (by decide) (hr.ext h1.ext) (bv_ones xs) (by simp; omega) (by simp; omega) h1.ext.size
  have hx2 : Ext w w2 := h1.ext.fresh hu2 (by rintro i ⟨p, hp, rfl⟩; exact (ho1.base p hp).1)
  refine ⟨r, w2, hap, fun w3 h3 => ⟨w2.heap.size, r, rfl, ⟨Blk.new h3, ?_, ?_, hx2.size, ?_, Nat.zero_le _, h8⟩, hx2.trans h3.ext⟩⟩
  · rw [← bv_append, List.nil_append] at ho2; exact ho2.ext h3.ext
  · intro p hp he
    have := (ho2.base p hp).2
    omega
  · have := hr.lenb; omega

section
variable {w : World} {B g : Nat} {bs : List Nat} {s : RS} {sl : Sl}
theorem rfail_spec (at_ e : Int) (h : RRd w B g bs s sl) :
    Calls Tryd.prog 22 #[.pointer (some ⟨g, 0, none⟩), .int .i64 at_, .int .i64 e] w fun en w' =>
      en = .returned (.tuple #[]) ∧ RRd w' B g bs (s.fail at_ e) sl ∧ Upd (· = g) w w' := by
  refine vc_22 _ _ _ _ _ ?_
  have hb := h.blk
  simp only [eq_self, false_or, or_false, true_and, and_true, decide_eq_true_eq, decide_eq_false_iff_not, gd_st, gd_sf, exists_eq_left', exists_eq_left, Option.some.injEq, Sl.eta, Nat.reduceLeDiff, Int.reduceLE, Int.reduceLT, Int.reduceEq, Int.reduceNe, Nat.reduceMul, Nat.reduceAdd, Nat.reduceSub, Int.toNat_natCast, beq_iff_eq, bne_iff_ne, beq_eq_false_iff_ne, bne_eq_false_iff_eq, pick_and, pick_or, Bool.and_eq_true, Bool.or_eq_true, Bool.and_eq_false_iff, Bool.or_eq_false_iff, ne_eq, not_false_eq_true, Bool.not_eq_true', Bool.not_eq_false', reduceCtorEq, Nat.le_refl, Nat.zero_mul, Nat.mul_one, Nat.zero_add, Int.reduceToNat, ones, one, add_mk, Decidable.not_not, cond_true, cond_false, true_implies, false_implies, implies_true, Bool.not_true, Bool.not_false]
  simp only [hb.cell, List.getElem?_cons_zero, List.getElem?_cons_succ, ex_sl, Value.int.injEq, Value.bool.injEq, Value.pointer.injEq, Value.string.injEq, eq_self, false_or, or_false, true_and, and_true, decide_eq_true_eq, decide_eq_false_iff_not, gd_st, gd_sf, exists_eq_left', exists_eq_left, Option.some.injEq, Sl.eta, Nat.reduceLeDiff, Int.reduceLE, Int.reduceLT, Int.reduceEq, Int.reduceNe, Nat.reduceMul, Nat.reduceAdd, Nat.reduceSub, Int.toNat_natCast, beq_iff_eq, bne_iff_ne, beq_eq_false_iff_ne, bne_eq_false_iff_eq, pick_and, pick_or, Bool.and_eq_true, Bool.or_eq_true, Bool.and_eq_false_iff, Bool.or_eq_false_iff, ne_eq, not_false_eq_true, Bool.not_eq_true', Bool.not_eq_false', reduceCtorEq, Nat.le_refl, Nat.zero_mul, Nat.mul_one, Nat.zero_add, Int.reduceToNat, ones, one, add_mk, Decidable.not_not, cond_true, cond_false, true_implies, false_implies, implies_true, Bool.not_true, Bool.not_false]
  refine ⟨fun h0 => ⟨fun he => ⟨hb.canSet 2 (by simp), fun w1 h1 => ?_⟩, fun he => ?_⟩, fun h0 => ?_⟩
  · have hb1 := h1.blk1 hb
    refine ⟨hb1.canSet 3 (by simp), fun w2 h2 => ?_⟩
    have hb2 := h2.blk1 hb1
    have hu := h1.upd.same h2.upd
    rw [RS.fail, if_pos ⟨h0, he⟩]
    exact ⟨h.turn hu hb2 h.pos, hu⟩
  · rw [RS.fail, if_neg (by simp [he])]
    exact ⟨h, .refl _ _⟩
  · rw [RS.fail, if_neg (by simp [h0])]
    exact ⟨h, .refl _ _⟩
/-- how long a number is -/
def rlen : List Nat → Nat → Nat
  | [], i => if 10 ≤ i then 11 else 0
  | c :: l, i => if 10 ≤ i then 11 else if c < 128 then i + 1 else rlen l (i + 1)
theorem length_spec (h : RRd w B g bs s sl) :
    Calls Tryd.prog 34 #[.pointer (some ⟨g, 0, none⟩)] w fun en w' =>
      en = .returned (.int .i64 (rlen (bs.drop s.k) 0)) ∧ Ext w w' := by
  refine vc_34 _ _ _ ?_
  have hl := h.len
  have hf := h.fit
  have hp := h.pos
  simp only [eq_self, false_or, or_false, true_and, and_true, decide_eq_true_eq, decide_eq_false_iff_not, gd_st, gd_sf, exists_eq_left', exists_eq_left, Option.some.injEq, Sl.eta, Nat.reduceLeDiff, Int.reduceLE, Int.reduceLT, Int.reduceEq, Int.reduceNe, Nat.reduceMul, Nat.reduceAdd, Nat.reduceSub, Int.toNat_natCast, beq_iff_eq, bne_iff_ne, beq_eq_false_iff_ne, bne_eq_false_iff_eq, pick_and, pick_or, Bool.and_eq_true, Bool.or_eq_true, Bool.and_eq_false_iff, Bool.or_eq_false_iff, ne_eq, not_false_eq_true, Bool.not_eq_true', Bool.not_eq_false', reduceCtorEq, Nat.le_refl, Nat.zero_mul, Nat.mul_one, Nat.zero_add, Int.reduceToNat, ones, one, add_mk, Decidable.not_not, cond_true, cond_false, true_implies, false_implies, implies_true, Bool.not_true, Bool.not_false]
  refine ⟨fun n w' => ∃ i : Nat, n = i ∧ i ≤ 10 ∧ s.k + i ≤ bs.length ∧ rlen (bs.drop s.k) 0 = rlen (bs.drop (s.k + i)) i ∧ Ext w w', fun n _ => (10 - n).toNat,
    ⟨0, rfl, by omega, by omega, rfl, .refl _⟩, ?_⟩
  rintro _ n w1 ⟨i, rfl, hi, hki, he, x1⟩
  refine ⟨fun h10 => ?_, fun h10 => ?_⟩
  · have hb1 := (h.ext x1).blk
    simp only [hb1.cell, List.getElem?_cons_zero, List.getElem?_cons_succ, ex_sl, Value.int.injEq, Value.bool.injEq, Value.pointer.injEq, Value.string.injEq, eq_self, false_or, or_false, true_and, and_true, decide_eq_true_eq, decide_eq_false_iff_not, gd_st, gd_sf, exists_eq_left', exists_eq_left, Option.some.injEq, Sl.eta, Nat.reduceLeDiff, Int.reduceLE, Int.reduceLT, Int.reduceEq, Int.reduceNe, Nat.reduceMul, Nat.reduceAdd, Nat.reduceSub, Int.toNat_natCast, beq_iff_eq, bne_iff_ne, beq_eq_false_iff_ne, bne_eq_false_iff_eq, pick_and, pick_or, Bool.and_eq_true, Bool.or_eq_true, Bool.and_eq_false_iff, Bool.or_eq_false_iff, ne_eq, not_false_eq_true, Bool.not_eq_true', Bool.not_eq_false', reduceCtorEq, Nat.le_refl, Nat.zero_mul, Nat.mul_one, Nat.zero_add, Int.reduceToNat, ones, one, add_mk, Decidable.not_not, cond_true, cond_false, true_implies, false_implies, implies_true, Bool.not_true, Bool.not_false]
    intro w2 q2
    have x2 := x1.trans q2.ext
    have h2 := h.ext x2
    have hb2 := h2.blk
    rw [wrap_i64 (n := (s.k : Int) + i) (by omega) (by omega)]
    refine ⟨fun hend => ?_, fun hne => ?_⟩
    · refine ⟨?_, x2⟩
      rw [he, List.drop_of_length_le (by omega), rlen, if_neg (by omega)]
      rfl
    · simp only [hb2.cell, List.getElem?_cons_zero, List.getElem?_cons_succ, ex_sl, Value.int.injEq, Value.bool.injEq, Value.pointer.injEq, Value.string.injEq, eq_self, false_or, or_false, true_and, and_true, decide_eq_true_eq, decide_eq_false_iff_not, gd_st, gd_sf, exists_eq_left', exists_eq_left, Option.some.injEq, Sl.eta, Nat.reduceLeDiff, Int.reduceLE, Int.reduceLT, Int.reduceEq, Int.reduceNe, Nat.reduceMul, Nat.reduceAdd, Nat.reduceSub, Int.toNat_natCast, beq_iff_eq, bne_iff_ne, beq_eq_false_iff_ne, bne_eq_false_iff_eq, pick_and, pick_or, Bool.and_eq_true, Bool.or_eq_true, Bool.and_eq_false_iff, Bool.or_eq_false_iff, ne_eq, not_false_eq_true, Bool.not_eq_true', Bool.not_eq_false', reduceCtorEq, Nat.le_refl, Nat.zero_mul, Nat.mul_one, Nat.zero_add, Int.reduceToNat, ones, one, add_mk, Decidable.not_not, cond_true, cond_false, true_implies, false_implies, implies_true, Bool.not_true, Bool.not_false]
      rw [wrap_i64 (n := (s.k : Int) + i) (by omega) (by omega)]
      obtain ⟨p, x, hpa, hx, hc⟩ := h2.own.rd.byte (s.k + i) (by omega)
      refine ⟨by omega, by omega, p, hpa, x, ?_, fun w3 q3 => ?_⟩
      · rw [show ((s.k : Int) + (i : Int)).toNat = s.k + i by omega]
        simpa using hc
      · rw [wrap_i64 (n := (i : Int) + 1) (by omega) (by omega)]
        have x3 := x2.trans q3.ext
        rw [drop_cons hx, rlen, if_neg (by omega)] at he
        refine ⟨fun h128 => ?_, fun h128 => ⟨⟨i + 1, by push_cast; rfl, by omega, by omega, ?_, x3⟩, by omega⟩⟩
        · rw [he, if_pos (by omega)]
          exact ⟨by push_cast; rfl, x3⟩
        · rw [he, if_neg (by omega)]; rfl
  · obtain rfl : i = 10 := by omega
    refine ⟨?_, x1⟩
    rw [he]
    cases bs.drop (s.k + 10) <;> rfl
def val : List Nat → Nat
  | [] => 0
  | c :: l => c % 128 + 128 * val l
theorem val_drop : ∀ (l : List Nat) (m : Nat), val (l.drop m) ≤ val l
  | [], m => by simp
  | c :: l, 0 => Nat.le_refl _
  | c :: l, m + 1 => by
    have := val_drop l m
    simp only [List.drop_succ_cons, val]
    omega
theorem rlen_parse : ∀ (l : List Nat) (i acc : Nat), i ≤ 9 → (rlen l i = 0 → parse l i acc = none) ∧ (rlen l i = 11 → parse l i acc = some none) ∧
    (rlen l i ≠ 0 → rlen l i ≠ 11 → i < rlen l i ∧ rlen l i ≤ 10 ∧ ∃ c, l[rlen l i - 1 - i]? = some c ∧ ((rlen l i = 10 ∧ 1 < c ∨ 1 < rlen l i ∧ c = 0) → parse l i acc = some none) ∧
      (¬ (rlen l i = 10 ∧ 1 < c ∨ 1 < rlen l i ∧ c = 0) → parse l i acc = some (some (acc + val (l.take (rlen l i - i)) * 128 ^ i, rlen l i))))
  | [], i, acc, hi => by
    rw [rlen, if_neg (by omega)]
    exact ⟨fun _ => rfl, fun h => by omega, fun h => (h rfl).elim⟩
  | c :: l, i, acc, hi => by
    rw [rlen, if_neg (by omega), parse]
    by_cases hc : c < 128
    · rw [if_pos hc]
      refine ⟨fun h => by omega, fun h => by omega, fun _ _ => ⟨by omega, by omega, c, by simp, ?_⟩⟩
      refine ⟨fun h => ?_, fun h => ?_⟩
      · by_cases h9 : i = 9 ∧ 1 < c
        · rw [if_pos h9]
        · rw [if_neg h9, if_pos hc, if_pos (by omega)]
      · rw [if_neg (by omega), if_pos hc, if_neg (by omega)]
        rw [show i + 1 - i = 1 by omega]
        simp only [List.take_succ_cons, List.take_zero, val, Nat.mod_eq_of_lt hc, Nat.mul_zero, Nat.add_zero]
    · rw [if_neg hc]
      by_cases h9 : i = 9
      · subst h9
        have e11 : rlen l (9 + 1) = 11 := by cases l <;> rfl
        rw [e11, if_pos ⟨rfl, by omega⟩]
        exact ⟨fun h => by omega, fun _ => rfl, fun _ h => (h rfl).elim⟩
      · rw [if_neg (by omega), if_neg hc]
        obtain ⟨h1, h2, h3⟩ := rlen_parse l (i + 1) (acc + c % 128 * 128 ^ i) (by omega)
        refine ⟨h1, h2, fun n0 n11 => ?_⟩
        obtain ⟨g1, g2, d, hd, hbad, hgood⟩ := h3 n0 n11
        generalize rlen l (i + 1) = z at *
        refine ⟨by omega, g2, d, ?_, hbad, fun hn => ?_⟩
        · rw [show z - 1 - i = (z - 1 - (i + 1)) + 1 by omega]
          simpa using hd
        · rw [hgood hn, show z - i = (z - (i + 1)) + 1 by omega]
          simp only [List.take_succ_cons, val, Nat.pow_succ]
          congr 2
          simp only [Prod.mk.injEq, and_true]
          rw [Nat.add_mul, Nat.add_assoc]
          congr 2
          rw [Nat.mul_comm 128, Nat.mul_assoc, Nat.mul_comm 128]
theorem ruint_spec (most : Nat) (e : Int) (h : RRd w B g bs s sl) :
    Calls Tryd.prog 20 #[.pointer (some ⟨g, 0, none⟩), .int .u64 most, .int .i64 e] w fun en w' =>
      en = .returned (.int .u64 (s.uint bs most e).1) ∧ RRd w' B g bs (s.uint bs most e).2 sl ∧ Upd (· = g) w w' := by
  refine vc_20 _ _ _ _ _ ?_
  have hb := h.blk
  have hl := h.len
  have hf := h.fit
  have hp := h.pos
  simp only [eq_self, false_or, or_false, true_and, and_true, decide_eq_true_eq, decide_eq_false_iff_not, gd_st, gd_sf, exists_eq_left', exists_eq_left, Option.some.injEq, Sl.eta, Nat.reduceLeDiff, Int.reduceLE, Int.reduceLT, Int.reduceEq, Int.reduceNe, Nat.reduceMul, Nat.reduceAdd, Nat.reduceSub, Int.toNat_natCast, beq_iff_eq, bne_iff_ne, beq_eq_false_iff_ne, bne_eq_false_iff_eq, pick_and, pick_or, Bool.and_eq_true, Bool.or_eq_true, Bool.and_eq_false_iff, Bool.or_eq_false_iff, ne_eq, not_false_eq_true, Bool.not_eq_true', Bool.not_eq_false', reduceCtorEq, Nat.le_refl, Nat.zero_mul, Nat.mul_one, Nat.zero_add, Int.reduceToNat, ones, one, add_mk, Decidable.not_not, cond_true, cond_false, true_implies, false_implies, implies_true, Bool.not_true, Bool.not_false]
  simp only [hb.cell, List.getElem?_cons_zero, List.getElem?_cons_succ, ex_sl, Value.int.injEq, Value.bool.injEq, Value.pointer.injEq, Value.string.injEq, eq_self, false_or, or_false, true_and, and_true, decide_eq_true_eq, decide_eq_false_iff_not, gd_st, gd_sf, exists_eq_left', exists_eq_left, Option.some.injEq, Sl.eta, Nat.reduceLeDiff, Int.reduceLE, Int.reduceLT, Int.reduceEq, Int.reduceNe, Nat.reduceMul, Nat.reduceAdd, Nat.reduceSub, Int.toNat_natCast, beq_iff_eq, bne_iff_ne, beq_eq_false_iff_ne, bne_eq_false_iff_eq, pick_and, pick_or, Bool.and_eq_true, Bool.or_eq_true, Bool.and_eq_false_iff, Bool.or_eq_false_iff, ne_eq, not_false_eq_true, Bool.not_eq_true', Bool.not_eq_false', reduceCtorEq, Nat.le_refl, Nat.zero_mul, Nat.mul_one, Nat.zero_add, Int.reduceToNat, ones, one, add_mk, Decidable.not_not, cond_true, cond_false, true_implies, false_implies, implies_true, Bool.not_true, Bool.not_false]
  refine ⟨fun h0 => ?_, fun h0 => ⟨(length_spec h).mono ?_⟩⟩
  · have e1 : s.uint bs most e = (0, s) := by rw [RS.uint, if_pos h0]
    rw [e1]
    exact ⟨rfl, h, .refl _ _⟩
  rintro en w1 ⟨rfl, x1⟩
  refine ⟨_, rfl, ?_⟩
  have h1 := h.ext x1
  have hb1 := h1.blk
  have en : parse (bs.drop s.k) 0 0 = none → s.uint bs most e = (0, s.fail bs.length 2) := fun hh => by rw [RS.uint, if_neg (by simp [h0]), hh]
  have eb : parse (bs.drop s.k) 0 0 = some none → s.uint bs most e = (0, s.fail s.k 4) := fun hh => by rw [RS.uint, if_neg (by simp [h0]), hh]
  have eg : ∀ n z, parse (bs.drop s.k) 0 0 = some (some (n, z)) → s.uint bs most e = if most < n ∧ e ≠ 0 then (0, s.fail s.k e) else (n, ⟨s.k + z, s.pl, s.er⟩) := fun n z hh => by rw [RS.uint, if_neg (by simp [h0]), hh]
  have fin : ∀ (at_ e' : Int) (w1 : World), Ext w w1 → s.uint bs most e = (0, s.fail at_ e') →
      CallW Tryd.prog 22 #[.pointer (some ⟨g, 0, none⟩), .int .i64 at_, .int .i64 e'] w1 fun en w' =>
        ∃ v, en = .returned v ∧ Ending.returned (.int .u64 0) = .returned (.int .u64 (s.uint bs most e).1) ∧ RRd w' B g bs (s.uint bs most e).2 sl ∧ Upd (· = g) w w' := by
    intro at_ e' w1 hx1 he
    refine ⟨(rfail_spec at_ e' (h.ext hx1)).mono ?_⟩
    rintro en w2 ⟨rfl, h2, u2⟩
    rw [he]
    exact ⟨_, rfl, rfl, h2, hx1.upd u2⟩
  obtain ⟨p0, p11, pz⟩ := rlen_parse (bs.drop s.k) 0 0 (by omega)
  generalize rlen (bs.drop s.k) 0 = z at *
  refine ⟨fun hz => ?_, fun hz => ?_⟩
  · simp only [hb1.cell, List.getElem?_cons_zero, List.getElem?_cons_succ, ex_sl, Value.int.injEq, Value.bool.injEq, Value.pointer.injEq, Value.string.injEq, eq_self, false_or, or_false, true_and, and_true, decide_eq_true_eq, decide_eq_false_iff_not, gd_st, gd_sf, exists_eq_left', exists_eq_left, Option.some.injEq, Sl.eta, Nat.reduceLeDiff, Int.reduceLE, Int.reduceLT, Int.reduceEq, Int.reduceNe, Nat.reduceMul, Nat.reduceAdd, Nat.reduceSub, Int.toNat_natCast, beq_iff_eq, bne_iff_ne, beq_eq_false_iff_ne, bne_eq_false_iff_eq, pick_and, pick_or, Bool.and_eq_true, Bool.or_eq_true, Bool.and_eq_false_iff, Bool.or_eq_false_iff, ne_eq, not_false_eq_true, Bool.not_eq_true', Bool.not_eq_false', reduceCtorEq, Nat.le_refl, Nat.zero_mul, Nat.mul_one, Nat.zero_add, Int.reduceToNat, ones, one, add_mk, Decidable.not_not, cond_true, cond_false, true_implies, false_implies, implies_true, Bool.not_true, Bool.not_false]
    rw [hl]
    exact fin _ _ w1 x1 (en (p0 (by omega)))
  have bad : parse (bs.drop s.k) 0 0 = some none → ∀ w2, Ext w w2 → CallW Tryd.prog 22 #[.pointer (some ⟨g, 0, none⟩), .int .i64 s.k, .int .i64 4] w2 fun en w' =>
        ∃ v, en = .returned v ∧ Ending.returned (.int .u64 0) = .returned (.int .u64 (s.uint bs most e).1) ∧ RRd w' B g bs (s.uint bs most e).2 sl ∧ Upd (· = g) w w' :=
    fun hbad w2 x2 => fin _ _ w2 x2 (eb hbad)
  refine ⟨fun w' => z ≠ 11 ∧ parse (bs.drop s.k) 0 0 = some (some (val ((bs.drop s.k).take z), z)) ∧ Ext w w', ⟨fun h11 => ?_, fun h11 w2 q2 => ?_⟩, ?_⟩
  · obtain ⟨z1, z2, c, hc, hbad, hgood⟩ := pz (by omega) (by omega)
    clear pz
    rw [Nat.zero_add, Nat.sub_zero, Nat.pow_zero, Nat.mul_one] at hgood
    rw [Nat.sub_zero, List.getElem?_drop] at hc
    have hcl := (List.getElem?_eq_some_iff.1 hc).1
    obtain ⟨p, x, hpa, hx, hcell⟩ := h1.own.rd.byte (s.k + (z - 1)) (by omega)
    obtain rfl : x = c := by rw [hx] at hc; injection hc
    have last : (1 < (z : Int) → Hid (∃ q, sl.a = some q ∧ ∃ n_4, w1.cell? (q.add (IntKind.i64.wrap (IntKind.i64.wrap ((s.k : Int) + z) - 1)).toNat) = some (.int .u8 n_4) ∧ n_4 = (x : Int) ∧ 0 ≤ IntKind.i64.wrap (IntKind.i64.wrap ((s.k : Int) + z) - 1) ∧ IntKind.i64.wrap (IntKind.i64.wrap ((s.k : Int) + z) - 1) < sl.n)) := by
      intro hz1
      unfold Hid
      rw [wrap_i64 (n := (s.k : Int) + z) (by omega) (by omega), wrap_i64 (by omega) (by omega)]
      refine ⟨p, hpa, x, ?_, rfl, by omega, by omega⟩
      rw [show ((s.k : Int) + z - 1).toNat = s.k + (z - 1) by omega]
      simpa using hcell
    refine ⟨fun h10 => ?_, fun h10 => ?_⟩
    · simp only [hb1.cell, List.getElem?_cons_zero, List.getElem?_cons_succ, ex_sl, Value.int.injEq, Value.bool.injEq, Value.pointer.injEq, Value.string.injEq, eq_self, false_or, or_false, true_and, and_true, decide_eq_true_eq, decide_eq_false_iff_not, gd_st, gd_sf, exists_eq_left', exists_eq_left, Option.some.injEq, Sl.eta, Nat.reduceLeDiff, Int.reduceLE, Int.reduceLT, Int.reduceEq, Int.reduceNe, Nat.reduceMul, Nat.reduceAdd, Nat.reduceSub, Int.toNat_natCast, beq_iff_eq, bne_iff_ne, beq_eq_false_iff_ne, bne_eq_false_iff_eq, pick_and, pick_or, Bool.and_eq_true, Bool.or_eq_true, Bool.and_eq_false_iff, Bool.or_eq_false_iff, ne_eq, not_false_eq_true, Bool.not_eq_true', Bool.not_eq_false', reduceCtorEq, Nat.le_refl, Nat.zero_mul, Nat.mul_one, Nat.zero_add, Int.reduceToNat, ones, one, add_mk, Decidable.not_not, cond_true, cond_false, true_implies, false_implies, implies_true, Bool.not_true, Bool.not_false]
      rw [wrap_i64 (n := (s.k : Int) + 9) (by omega) (by omega)]
      refine ⟨by omega, by omega, p, hpa, x, ?_, fun hx1 => ⟨fun hz1 => ?_, fun hz1 => by omega⟩, fun hx1 w2 q2 => ?_⟩
      · rw [show ((s.k : Int) + 9).toNat = s.k + (z - 1) by omega]
        simpa using hcell
      · obtain ⟨q, hq, n4, hn4, rfl, b0, b1⟩ := last hz1
        refine ⟨b0, b1, q, hq, _, hn4, fun w2 q2 => ⟨fun hx0 => ?_, fun hx0 => ⟨by omega, hgood (by omega), x1.trans q2.ext⟩⟩⟩
        have hb2 := (h1.ext q2.ext).blk
        simp only [hb2.cell, List.getElem?_cons_zero, List.getElem?_cons_succ, ex_sl, Value.int.injEq, Value.bool.injEq, Value.pointer.injEq, Value.string.injEq, eq_self, false_or, or_false, true_and, and_true, decide_eq_true_eq, decide_eq_false_iff_not, gd_st, gd_sf, exists_eq_left', exists_eq_left, Option.some.injEq, Sl.eta, Nat.reduceLeDiff, Int.reduceLE, Int.reduceLT, Int.reduceEq, Int.reduceNe, Nat.reduceMul, Nat.reduceAdd, Nat.reduceSub, Int.toNat_natCast, beq_iff_eq, bne_iff_ne, beq_eq_false_iff_ne, bne_eq_false_iff_eq, pick_and, pick_or, Bool.and_eq_true, Bool.or_eq_true, Bool.and_eq_false_iff, Bool.or_eq_false_iff, ne_eq, not_false_eq_true, Bool.not_eq_true', Bool.not_eq_false', reduceCtorEq, Nat.le_refl, Nat.zero_mul, Nat.mul_one, Nat.zero_add, Int.reduceToNat, ones, one, add_mk, Decidable.not_not, cond_true, cond_false, true_implies, false_implies, implies_true, Bool.not_true, Bool.not_false]
        exact bad (hbad (by omega)) w2 (x1.trans q2.ext)
      · have hb2 := (h1.ext q2.ext).blk
        simp only [hb2.cell, List.getElem?_cons_zero, List.getElem?_cons_succ, ex_sl, Value.int.injEq, Value.bool.injEq, Value.pointer.injEq, Value.string.injEq, eq_self, false_or, or_false, true_and, and_true, decide_eq_true_eq, decide_eq_false_iff_not, gd_st, gd_sf, exists_eq_left', exists_eq_left, Option.some.injEq, Sl.eta, Nat.reduceLeDiff, Int.reduceLE, Int.reduceLT, Int.reduceEq, Int.reduceNe, Nat.reduceMul, Nat.reduceAdd, Nat.reduceSub, Int.toNat_natCast, beq_iff_eq, bne_iff_ne, beq_eq_false_iff_ne, bne_eq_false_iff_eq, pick_and, pick_or, Bool.and_eq_true, Bool.or_eq_true, Bool.and_eq_false_iff, Bool.or_eq_false_iff, ne_eq, not_false_eq_true, Bool.not_eq_true', Bool.not_eq_false', reduceCtorEq, Nat.le_refl, Nat.zero_mul, Nat.mul_one, Nat.zero_add, Int.reduceToNat, ones, one, add_mk, Decidable.not_not, cond_true, cond_false, true_implies, false_implies, implies_true, Bool.not_true, Bool.not_false]
        exact bad (hbad (by omega)) w2 (x1.trans q2.ext)
    · refine ⟨fun hz1 => ?_, fun hz1 w2 q2 => ⟨by omega, hgood (by omega), x1.trans q2.ext⟩⟩
      simp only [hb1.cell, List.getElem?_cons_zero, List.getElem?_cons_succ, ex_sl, Value.int.injEq, Value.bool.injEq, Value.pointer.injEq, Value.string.injEq, eq_self, false_or, or_false, true_and, and_true, decide_eq_true_eq, decide_eq_false_iff_not, gd_st, gd_sf, exists_eq_left', exists_eq_left, Option.some.injEq, Sl.eta, Nat.reduceLeDiff, Int.reduceLE, Int.reduceLT, Int.reduceEq, Int.reduceNe, Nat.reduceMul, Nat.reduceAdd, Nat.reduceSub, Int.toNat_natCast, beq_iff_eq, bne_iff_ne, beq_eq_false_iff_ne, bne_eq_false_iff_eq, pick_and, pick_or, Bool.and_eq_true, Bool.or_eq_true, Bool.and_eq_false_iff, Bool.or_eq_false_iff, ne_eq, not_false_eq_true, Bool.not_eq_true', Bool.not_eq_false', reduceCtorEq, Nat.le_refl, Nat.zero_mul, Nat.mul_one, Nat.zero_add, Int.reduceToNat, ones, one, add_mk, Decidable.not_not, cond_true, cond_false, true_implies, false_implies, implies_true, Bool.not_true, Bool.not_false]
      obtain ⟨q, hq, n4, hn4, rfl, b0, b1⟩ := last hz1
      refine ⟨b0, b1, q, hq, _, hn4, fun w2 q2 => ⟨fun hx0 => ?_, fun hx0 => ⟨by omega, hgood (by omega), x1.trans q2.ext⟩⟩⟩
      have hb2 := (h1.ext q2.ext).blk
      simp only [hb2.cell, List.getElem?_cons_zero, List.getElem?_cons_succ, ex_sl, Value.int.injEq, Value.bool.injEq, Value.pointer.injEq, Value.string.injEq, eq_self, false_or, or_false, true_and, and_true, decide_eq_true_eq, decide_eq_false_iff_not, gd_st, gd_sf, exists_eq_left', exists_eq_left, Option.some.injEq, Sl.eta, Nat.reduceLeDiff, Int.reduceLE, Int.reduceLT, Int.reduceEq, Int.reduceNe, Nat.reduceMul, Nat.reduceAdd, Nat.reduceSub, Int.toNat_natCast, beq_iff_eq, bne_iff_ne, beq_eq_false_iff_ne, bne_eq_false_iff_eq, pick_and, pick_or, Bool.and_eq_true, Bool.or_eq_true, Bool.and_eq_false_iff, Bool.or_eq_false_iff, ne_eq, not_false_eq_true, Bool.not_eq_true', Bool.not_eq_false', reduceCtorEq, Nat.le_refl, Nat.zero_mul, Nat.mul_one, Nat.zero_add, Int.reduceToNat, ones, one, add_mk, Decidable.not_not, cond_true, cond_false, true_implies, false_implies, implies_true, Bool.not_true, Bool.not_false]
      exact bad (hbad (by omega)) w2 (x1.trans q2.ext)
  · have hb2 := (h1.ext q2.ext).blk
    simp only [hb2.cell, List.getElem?_cons_zero, List.getElem?_cons_succ, ex_sl, Value.int.injEq, Value.bool.injEq, Value.pointer.injEq, Value.string.injEq, eq_self, false_or, or_false, true_and, and_true, decide_eq_true_eq, decide_eq_false_iff_not, gd_st, gd_sf, exists_eq_left', exists_eq_left, Option.some.injEq, Sl.eta, Nat.reduceLeDiff, Int.reduceLE, Int.reduceLT, Int.reduceEq, Int.reduceNe, Nat.reduceMul, Nat.reduceAdd, Nat.reduceSub, Int.toNat_natCast, beq_iff_eq, bne_iff_ne, beq_eq_false_iff_ne, bne_eq_false_iff_eq, pick_and, pick_or, Bool.and_eq_true, Bool.or_eq_true, Bool.and_eq_false_iff, Bool.or_eq_false_iff, ne_eq, not_false_eq_true, Bool.not_eq_true', Bool.not_eq_false', reduceCtorEq, Nat.le_refl, Nat.zero_mul, Nat.mul_one, Nat.zero_add, Int.reduceToNat, ones, one, add_mk, Decidable.not_not, cond_true, cond_false, true_implies, false_implies, implies_true, Bool.not_true, Bool.not_false]
    exact bad (p11 (by omega)) w2 (x1.trans q2.ext)
  rintro _ w2 ⟨hz11, hpar, x2⟩
  obtain ⟨z1, z2, c, hc, hbad, hgood⟩ := pz (by omega) (by omega)
  clear pz
  rw [Nat.sub_zero, List.getElem?_drop] at hc
  have hcl := (List.getElem?_eq_some_iff.1 hc).1
  have hlt := parse_lt _ 0 0 _ z (by decide) (by omega) hpar
  have hLl : ((bs.drop s.k).take z).length = z := by rw [List.length_take, List.length_drop]; omega
  have e2 : s.uint bs most e = if most < val ((bs.drop s.k).take z) ∧ e ≠ 0 then (0, s.fail s.k e) else (val ((bs.drop s.k).take z), ⟨s.k + z, s.pl, s.er⟩) := eg _ _ hpar
  have hLg : ∀ j, j < z → ((bs.drop s.k).take z)[j]? = bs[s.k + j]? := fun j hj => by rw [List.getElem?_take, if_pos hj, List.getElem?_drop]
  generalize (bs.drop s.k).take z = L at *
  refine ⟨fun n1 n2 w' => ∃ j : Nat, j ≤ z ∧ n2 = (z : Int) - 1 - j ∧ n1 = (val (L.drop (z - j)) : Nat) ∧ Ext w w', fun _ n2 _ => (n2 + 1).toNat,
    ⟨0, by omega, by rw [wrap_i64 (by omega) (by omega)]; omega, by rw [List.drop_of_length_le (by omega)]; rfl, x2⟩, ?_⟩
  rintro _ n1 n2 w3 ⟨j, hj, rfl, rfl, x3⟩
  have h3 := h.ext x3
  have hb3 := h3.blk
  refine ⟨fun hn2 => ?_, fun hn2 => ?_⟩
  · simp only [hb3.cell, List.getElem?_cons_zero, List.getElem?_cons_succ, ex_sl, Value.int.injEq, Value.bool.injEq, Value.pointer.injEq, Value.string.injEq, eq_self, false_or, or_false, true_and, and_true, decide_eq_true_eq, decide_eq_false_iff_not, gd_st, gd_sf, exists_eq_left', exists_eq_left, Option.some.injEq, Sl.eta, Nat.reduceLeDiff, Int.reduceLE, Int.reduceLT, Int.reduceEq, Int.reduceNe, Nat.reduceMul, Nat.reduceAdd, Nat.reduceSub, Int.toNat_natCast, beq_iff_eq, bne_iff_ne, beq_eq_false_iff_ne, bne_eq_false_iff_eq, pick_and, pick_or, Bool.and_eq_true, Bool.or_eq_true, Bool.and_eq_false_iff, Bool.or_eq_false_iff, ne_eq, not_false_eq_true, Bool.not_eq_true', Bool.not_eq_false', reduceCtorEq, Nat.le_refl, Nat.zero_mul, Nat.mul_one, Nat.zero_add, Int.reduceToNat, ones, one, add_mk, Decidable.not_not, cond_true, cond_false, true_implies, false_implies, implies_true, Bool.not_true, Bool.not_false]
    rw [wrap_i64 (n := (s.k : Int) + ((z : Int) - 1 - j)) (by omega) (by omega)]
    obtain ⟨p, x, hpa, hx, hcell⟩ := h3.own.rd.byte (s.k + (z - 1 - j)) (by omega)
    refine ⟨by omega, by omega, p, hpa, x, ?_, fun w4 q4 => ?_⟩
    · rw [show ((s.k : Int) + ((z : Int) - 1 - j)).toNat = s.k + (z - 1 - j) by omega]
      simpa using hcell
    · have hLx := hLg (z - 1 - j) (by omega)
      rw [hx] at hLx
      have hd := drop_cons hLx
      rw [show z - 1 - j + 1 = z - j by omega] at hd
      have hle := val_drop L (z - 1 - j)
      rw [hd, val] at hle
      have hx8 : x < 256 := h.byt x (List.mem_of_getElem? hx)
      refine ⟨⟨j + 1, by omega, by rw [wrap_i64 (by omega) (by omega)]; omega, ?_, x3.trans q4.ext⟩, by rw [wrap_i64 (by omega) (by omega)]; omega⟩
      rw [show z - (j + 1) = z - 1 - j by omega, hd, val, Int.tmod_eq_emod_of_nonneg (by omega)]
      rw [wrap_u64 (n := 128 * _) (by omega) (by omega), wrap_u64 (n := (x : Int) % 128) (by omega) (by omega), wrap_u64 (by omega) (by omega)]
      omega
  · obtain rfl : j = z := by omega
    rw [Nat.sub_self, List.drop_zero]
    have store : ¬ (most < val L ∧ e ≠ 0) → CanSet w3 ⟨g, 1, none⟩ 1 ∧ ∀ w4, SetW w3 ⟨g, 1, none⟩ [.int .i64 (IntKind.i64.wrap ((s.k : Int) + (j : Int)))] w4 →
        Ending.returned (.int .u64 (val L : Nat)) = .returned (.int .u64 (s.uint bs most e).1) ∧ RRd w4 B g bs (s.uint bs most e).2 sl ∧ Upd (· = g) w w4 := by
      intro hn
      refine ⟨hb3.canSet 1 (by simp), fun w4 h4 => ?_⟩
      have hb4 := h4.blk1 hb3
      rw [wrap_i64 (by omega) (by omega)] at hb4
      rw [e2, if_neg hn]
      exact ⟨rfl, h3.turn h4.upd (by simpa using hb4) (by dsimp only; omega), x3.upd h4.upd⟩
    refine ⟨fun hm => ⟨fun he => ?_, fun he => ?_⟩, fun hm => ?_⟩
    · simp only [hb3.cell, List.getElem?_cons_zero, List.getElem?_cons_succ, ex_sl, Value.int.injEq, Value.bool.injEq, Value.pointer.injEq, Value.string.injEq, eq_self, false_or, or_false, true_and, and_true, decide_eq_true_eq, decide_eq_false_iff_not, gd_st, gd_sf, exists_eq_left', exists_eq_left, Option.some.injEq, Sl.eta, Nat.reduceLeDiff, Int.reduceLE, Int.reduceLT, Int.reduceEq, Int.reduceNe, Nat.reduceMul, Nat.reduceAdd, Nat.reduceSub, Int.toNat_natCast, beq_iff_eq, bne_iff_ne, beq_eq_false_iff_ne, bne_eq_false_iff_eq, pick_and, pick_or, Bool.and_eq_true, Bool.or_eq_true, Bool.and_eq_false_iff, Bool.or_eq_false_iff, ne_eq, not_false_eq_true, Bool.not_eq_true', Bool.not_eq_false', reduceCtorEq, Nat.le_refl, Nat.zero_mul, Nat.mul_one, Nat.zero_add, Int.reduceToNat, ones, one, add_mk, Decidable.not_not, cond_true, cond_false, true_implies, false_implies, implies_true, Bool.not_true, Bool.not_false]
      exact fin _ _ w3 x3 (by rw [e2, if_pos ⟨by omega, he⟩])
    · simp only [hb3.cell, List.getElem?_cons_zero, List.getElem?_cons_succ, ex_sl, Value.int.injEq, Value.bool.injEq, Value.pointer.injEq, Value.string.injEq, eq_self, false_or, or_false, true_and, and_true, decide_eq_true_eq, decide_eq_false_iff_not, gd_st, gd_sf, exists_eq_left', exists_eq_left, Option.some.injEq, Sl.eta, Nat.reduceLeDiff, Int.reduceLE, Int.reduceLT, Int.reduceEq, Int.reduceNe, Nat.reduceMul, Nat.reduceAdd, Nat.reduceSub, Int.toNat_natCast, beq_iff_eq, bne_iff_ne, beq_eq_false_iff_ne, bne_eq_false_iff_eq, pick_and, pick_or, Bool.and_eq_true, Bool.or_eq_true, Bool.and_eq_false_iff, Bool.or_eq_false_iff, ne_eq, not_false_eq_true, Bool.not_eq_true', Bool.not_eq_false', reduceCtorEq, Nat.le_refl, Nat.zero_mul, Nat.mul_one, Nat.zero_add, Int.reduceToNat, ones, one, add_mk, Decidable.not_not, cond_true, cond_false, true_implies, false_implies, implies_true, Bool.not_true, Bool.not_false]
      exact store (fun h => h.2 he)
    · simp only [hb3.cell, List.getElem?_cons_zero, List.getElem?_cons_succ, ex_sl, Value.int.injEq, Value.bool.injEq, Value.pointer.injEq, Value.string.injEq, eq_self, false_or, or_false, true_and, and_true, decide_eq_true_eq, decide_eq_false_iff_not, gd_st, gd_sf, exists_eq_left', exists_eq_left, Option.some.injEq, Sl.eta, Nat.reduceLeDiff, Int.reduceLE, Int.reduceLT, Int.reduceEq, Int.reduceNe, Nat.reduceMul, Nat.reduceAdd, Nat.reduceSub, Int.toNat_natCast, beq_iff_eq, bne_iff_ne, beq_eq_false_iff_ne, bne_eq_false_iff_eq, pick_and, pick_or, Bool.and_eq_true, Bool.or_eq_true, Bool.and_eq_false_iff, Bool.or_eq_false_iff, ne_eq, not_false_eq_true, Bool.not_eq_true', Bool.not_eq_false', reduceCtorEq, Nat.le_refl, Nat.zero_mul, Nat.mul_one, Nat.zero_add, Int.reduceToNat, ones, one, add_mk, Decidable.not_not, cond_true, cond_false, true_implies, false_implies, implies_true, Bool.not_true, Bool.not_false]
      exact store (fun h => by omega)
end
end Go.Proofs.YtihnjjmbcbfheaaDoor.V
