/-
  Package stack: Frame.
-/
import Derived.Test.YtodbmiflnellcaaSt5
namespace Go.Proofs.Ytodbmiflnellcaa.V
open Go Go.RowKit
set_option linter.unusedVariables false
set_option linter.unusedSimpArgs false

section
variable {w w' w1 : World} {g gr words : Nat} {fs : Sl} {cs : List Nat} {L A C : List Fr} {f : Fr} {F : Nat → Prop}
theorem StkAt.part (h : StkAt w g gr words fs cs L) {o m n c c' : Nat} {xs : List Nat} (hx : ∀ j v, xs[j]? = some v → cs[o + m + j]? = some v) (hl : xs.length = n) (hc : c = m → n = 0) :
    Rd w 1 ⟨if c = m then some ⟨gr, o, none⟩ else Option.map (fun x : Addr => x.add m) (some ⟨gr, o, none⟩), n, c'⟩ (uv xs) := by
  refine ⟨by simp [hl], fun hn => ?_⟩
  have hn' : 0 < n := hn
  rw [if_neg (fun e => by have := hc e; omega)]
  refine ⟨_, rfl, fun j v hv => ?_⟩
  obtain ⟨x, hx', rfl⟩ := uv_get _ _ _ hv
  rw [add_add, add_mk]
  exact h.cellAt (by rw [← Nat.add_assoc]; exact hx j x hx')
/-- a frame as it is told -/
def fv (fn at_ : Nat) (a b : Sl) : Value := .agg #[.int .i64 (fn : Nat), .int .i64 (at_ : Nat), .slice a.a a.n a.c, .slice b.a b.n b.c]
/-- two lists of a told frame, the caller's own, from B on -/
structure Told (w : World) (B : Nat) (f : Fr) (a b : Sl) : Prop where
  ls : Own w B 34 1 a (uv f.ls)
  ops : Own w B 34 1 b (uv f.ops)
  apart : ∀ p q, a.a = some p → b.a = some q → p.block ≠ q.block
theorem frameT_spec (k : Int) (h : Stk w g F words L) : Calls Try.prog 20 #[.pointer (some ⟨g, 0, none⟩), .int .i64 k] w fun e w' =>
    Ext w w' ∧ (((k < 0 ∨ (L.length : Int) ≤ k) ∧ e = .returned (.tuple #[fv 0 0 ⟨none, 0, 0⟩ ⟨none, 0, 0⟩, .bool false])) ∨
      ∃ A f C a b, L = A ++ f :: C ∧ k = (A.length : Int) ∧ f.Ok ∧ e = .returned (.tuple #[fv f.fn f.at_ a b, .bool true]) ∧ Told w' w.heap.size f a b) := by
  obtain ⟨gr, fs, cs, h, f1, f2, f3, f4⟩ := h
  refine vc_20 _ _ _ _ ?_
  simp only [eq_self, true_and, and_true, decide_eq_true_eq, decide_eq_false_iff_not, gd_st, gd_sf, exists_eq_left', exists_eq_left, Option.some.injEq, Sl.eta, Nat.reduceLeDiff, Int.reduceLE, Int.reduceLT, Int.reduceEq, Int.reduceNe, Nat.reduceMul, Nat.reduceAdd, Nat.reduceSub, Int.toNat_natCast, beq_iff_eq, bne_iff_ne, beq_eq_false_iff_ne, bne_eq_false_iff_eq, pick_and, pick_or, Bool.and_eq_true, Bool.or_eq_true, Bool.and_eq_false_iff, Bool.or_eq_false_iff, ne_eq, not_false_eq_true, Bool.not_eq_true', Bool.not_eq_false', reduceCtorEq, Nat.le_refl, Nat.zero_mul, Nat.mul_one, Nat.zero_add, Int.reduceToNat, ones, one, add_mk, Decidable.not_not, cond_true, cond_false, true_implies, false_implies, implies_true, Bool.not_true, Bool.not_false]
  intro w1 n1
  have h1 := h.ext n1.ext
  have hb1 := Blk.new n1
  simp only [] at hb1
  rcases split_at L k with hk | ⟨A, f, C, rfl, rfl⟩
  · refine ⟨(frame_out h1 k hk).mono ?_⟩
    rintro e w2 ⟨rfl, q2⟩
    have hb2 := hb1.ext q2.ext
    refine ⟨⟨none, 0, 0⟩, rfl, ?_⟩
    simp only [Option.isNone_none]
    simp only [eq_self, true_and, and_true, decide_eq_true_eq, decide_eq_false_iff_not, gd_st, gd_sf, exists_eq_left', exists_eq_left, Option.some.injEq, Sl.eta, Nat.reduceLeDiff, Int.reduceLE, Int.reduceLT, Int.reduceEq, Int.reduceNe, Nat.reduceMul, Nat.reduceAdd, Nat.reduceSub, Int.toNat_natCast, beq_iff_eq, bne_iff_ne, beq_eq_false_iff_ne, bne_eq_false_iff_eq, pick_and, pick_or, Bool.and_eq_true, Bool.or_eq_true, Bool.and_eq_false_iff, Bool.or_eq_false_iff, ne_eq, not_false_eq_true, Bool.not_eq_true', Bool.not_eq_false', reduceCtorEq, Nat.le_refl, Nat.zero_mul, Nat.mul_one, Nat.zero_add, Int.reduceToNat, ones, one, add_mk, Decidable.not_not, cond_true, cond_false, true_implies, false_implies, implies_true, Bool.not_true, Bool.not_false]
    refine ⟨hb2.canSetN 0 4 (by simp), fun w3 hs => ?_⟩
    have hb3 := hs.blk hb2
    simp only [setsL, List.set_cons_zero, List.set_cons_succ] at hb3
    simp only [hb3.cell, List.getElem?_cons_zero, List.getElem?_cons_succ, ex_sl, Value.int.injEq, Value.bool.injEq, Value.pointer.injEq, Value.string.injEq, eq_self, true_and, and_true, decide_eq_true_eq, decide_eq_false_iff_not, gd_st, gd_sf, exists_eq_left', exists_eq_left, Option.some.injEq, Sl.eta, Nat.reduceLeDiff, Int.reduceLE, Int.reduceLT, Int.reduceEq, Int.reduceNe, Nat.reduceMul, Nat.reduceAdd, Nat.reduceSub, Int.toNat_natCast, beq_iff_eq, bne_iff_ne, beq_eq_false_iff_ne, bne_eq_false_iff_eq, pick_and, pick_or, Bool.and_eq_true, Bool.or_eq_true, Bool.and_eq_false_iff, Bool.or_eq_false_iff, ne_eq, not_false_eq_true, Bool.not_eq_true', Bool.not_eq_false', reduceCtorEq, Nat.le_refl, Nat.zero_mul, Nat.mul_one, Nat.zero_add, Int.reduceToNat, ones, one, add_mk, Decidable.not_not, cond_true, cond_false, true_implies, false_implies, implies_true, Bool.not_true, Bool.not_false]
    refine ⟨0, 0, ⟨none, 0, 0⟩, ⟨none, 0, 0⟩, rfl, ⟨rfl, rfl, rfl, rfl⟩, ?_, .inl ⟨hk, rfl⟩⟩
    exact (n1.ext.trans q2.ext).fresh hs.upd (by rintro i rfl; exact Nat.le_refl _)
  · refine ⟨(frame_in h1).mono ?_⟩
    rintro e w2 ⟨rfl, q2⟩
    have h2 := h1.ext q2.ext
    have hr := h.room
    have hg := h.big
    have hz : f.size = 3 + f.ls.length + f.hi := rfl
    have hf := h.at_
    have hop := hf.ok.ops
    have hls := hf.ok.ls
    have hhi := hf.ok.hi
    have hfn := hf.ok.fn
    have hat := hf.ok.at_
    refine ⟨⟨some ⟨gr, used A, none⟩, words - used A, words - used A⟩, rfl, ?_⟩
    simp only [Option.isNone_some]
    simp only [eq_self, true_and, and_true, decide_eq_true_eq, decide_eq_false_iff_not, gd_st, gd_sf, exists_eq_left', exists_eq_left, Option.some.injEq, Sl.eta, Nat.reduceLeDiff, Int.reduceLE, Int.reduceLT, Int.reduceEq, Int.reduceNe, Nat.reduceMul, Nat.reduceAdd, Nat.reduceSub, Int.toNat_natCast, beq_iff_eq, bne_iff_ne, beq_eq_false_iff_ne, bne_eq_false_iff_eq, pick_and, pick_or, Bool.and_eq_true, Bool.or_eq_true, Bool.and_eq_false_iff, Bool.or_eq_false_iff, ne_eq, not_false_eq_true, Bool.not_eq_true', Bool.not_eq_false', reduceCtorEq, Nat.le_refl, Nat.zero_mul, Nat.mul_one, Nat.zero_add, Int.reduceToNat, ones, one, add_mk, Decidable.not_not, cond_true, cond_false, true_implies, false_implies, implies_true, Bool.not_true, Bool.not_false]
    refine ⟨(locals_spec h2 _ _ hf (by omega)).mono ?_⟩
    rintro e w3 ⟨rfl, q3⟩
    refine ⟨_, rfl, fun w4 q4 => ?_⟩
    have x24 : Ext w2 w4 := q3.ext.trans q4.ext
    have h4 := h2.ext x24
    rw [wrap_i64 (n := 3 + (f.ls.length : Int)) (by omega) (by omega)]
    refine ⟨fun _ => False, by omega, _, fun w5 hu => (h4.ext hu).cellAt hf.pl, by omega, _, fun w5 hu => (h4.ext hu).cellAt hf.pl, by omega, by omega, by omega, _, fun w5 hu => (h4.ext hu).cellAt hf.ht, ?_⟩
    rw [wrap_i64 (n := (f.ops.length : Nat)) (by omega) (by omega), wrap_i64 (n := 3 + (f.ls.length : Int) + _) (by omega) (by omega)]
    rw [show (3 + (f.ls.length : Int)).toNat = 3 + f.ls.length by omega, show (3 + (f.ls.length : Int) + (f.ops.length : Int)).toNat - (3 + f.ls.length) = f.ops.length by omega, show 3 + f.ls.length - 3 = f.ls.length by omega]
    have hrd1 := h4.part (o := used A) (m := 3) (n := f.ls.length) (c := words - used A) (c' := words - used A - 3) hf.ls rfl (by omega)
    obtain ⟨a, w5, hr5, han, ho5, hu5, hfr5⟩ := (Own.nil w4 w4.heap.size 34 1).append (t := 47) (ty := 47) tab_ok rfl rfl (by decide) hrd1 (uv_ones _) (by simp only; omega) (by simp only; omega) (Nat.le_refl _)
    have x45 : Ext w4 w5 := hu5.mono fun k _ _ => by rintro ⟨p, hp, _⟩; cases hp
    have hrd2 := (h4.ext x45).part (o := used A) (m := 3 + f.ls.length) (n := f.ops.length) (c := words - used A) (c' := words - used A - (3 + f.ls.length)) (by intro j v hv; rw [← Nat.add_assoc]; exact hf.ops j v hv) rfl (by omega)
    obtain ⟨b, w6, hr6, hbn, ho6, hu6, hfr6⟩ := (Own.nil w5 w5.heap.size 34 1).append (t := 47) (ty := 47) tab_ok rfl rfl (by decide) hrd2 (uv_ones _) (by simp only; omega) (by simp only; omega) (Nat.le_refl _)
    have x56 : Ext w5 w6 := hu6.mono fun k _ _ => by rintro ⟨p, hp, _⟩; cases hp
    have hb6 := hb1.ext (q2.ext.trans (x24.trans (x45.trans x56)))
    refine ⟨by omega, by omega, by omega, a, w5, hr5, x45, b, w6, hr6, x56, Nat.le_of_ble_eq_true rfl, Nat.le_of_ble_eq_true rfl, Nat.le_of_ble_eq_true rfl, rfl, hb6.canSetN 0 4 (by simp), fun w7 hs => ?_⟩
    have hb7 := hs.blk hb6
    simp only [setsL, List.set_cons_zero, List.set_cons_succ] at hb7
    simp only [hb7.cell, List.getElem?_cons_zero, List.getElem?_cons_succ, ex_sl, Value.int.injEq, Value.bool.injEq, Value.pointer.injEq, Value.string.injEq, eq_self, true_and, and_true, decide_eq_true_eq, decide_eq_false_iff_not, gd_st, gd_sf, exists_eq_left', exists_eq_left, Option.some.injEq, Sl.eta, Nat.reduceLeDiff, Int.reduceLE, Int.reduceLT, Int.reduceEq, Int.reduceNe, Nat.reduceMul, Nat.reduceAdd, Nat.reduceSub, Int.toNat_natCast, beq_iff_eq, bne_iff_ne, beq_eq_false_iff_ne, bne_eq_false_iff_eq, pick_and, pick_or, Bool.and_eq_true, Bool.or_eq_true, Bool.and_eq_false_iff, Bool.or_eq_false_iff, ne_eq, not_false_eq_true, Bool.not_eq_true', Bool.not_eq_false', reduceCtorEq, Nat.le_refl, Nat.zero_mul, Nat.mul_one, Nat.zero_add, Int.reduceToNat, ones, one, add_mk, Decidable.not_not, cond_true, cond_false, true_implies, false_implies, implies_true, Bool.not_true, Bool.not_false]
    rw [shr32, wrap_u32', show (f.fn * 4294967296 + f.at_) / 4294967296 = f.fn by omega, show (((f.fn * 4294967296 + f.at_ : Nat) : Int) % 4294967296) = (f.at_ : Nat) by omega, wrap_i64 (n := (f.fn : Nat)) (by omega) (by omega), wrap_i64 (n := (f.at_ : Nat)) (by omega) (by omega)]
    have s1 := n1.size
    have s4 : w1.heap.size ≤ w4.heap.size := (q2.ext.trans x24).size
    have s5 := x45.size
    have e : Ext w w7 := Ext.fresh (n1.ext.trans (q2.ext.trans (x24.trans (x45.trans x56)))) hs.upd (by rintro i rfl; exact Nat.le_refl _)
    refine ⟨(f.fn : Nat), (f.at_ : Nat), a, b, rfl, ⟨rfl, rfl, rfl, rfl⟩, e, .inr ⟨A, f, C, a, b, rfl, rfl, hf.ok, rfl, ?_, ?_, ?_⟩⟩
    · have := (ho5.ext x56).upd hs.upd fun p hp => by
        have := (ho5.base p hp).1
        show p.block ≠ w.heap.size
        omega
      exact this.mono (by omega)
    · have := ho6.upd hs.upd fun p hp => by
        have := (ho6.base p hp).1
        show p.block ≠ w.heap.size
        omega
      exact this.mono (by omega)
    · intro p q hp hq he
      have e1 := (ho5.base p hp).2
      have e2 := (ho6.base q hq).1
      omega
end
end Go.Proofs.Ytodbmiflnellcaa.V
