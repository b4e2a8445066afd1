/-
  Headers, cells and words of an arena.
-/
import Derived.Test.YtcmmdaginkhomaaAr4
namespace Go.Proofs.Ytcmmdaginkhomaa.V
open Go Go.RowKit
set_option linter.unusedVariables false
set_option linter.unusedSimpArgs false
set_option maxRecDepth 100000

theorem Ar.Ok.useIn {A : Ar} (h : A.Ok) : A.use.f ≤ A.n ∧ A.use.f ≤ 2 * A.n ∧ A.use.e ≤ 2 * A.n := by
  have h1 := h.use; have h2 := h.use1
  omega
theorem Ar.Ok.nxtIn {A : Ar} (h : A.Ok) : A.nxt.f ≤ 2 * A.n ∧ A.nxt.e ≤ 2 * A.n ∧ A.nxt.f ≤ A.nxt.e := by
  have h1 := h.use
  cases ho : A.opn with
  | true => have := h.nxt ho; omega
  | false => rw [h.nxt0 ho]; dsimp only; omega
theorem stT_in {A : Ar} {s : Sp} {r : Nat} {h : Hd} (hs : stT A s r = some h) : s.f < r ∧ MayT h ∧ r + h.l.toNat + 1 ≤ s.e ∧ ∃ x, A.ws[r - 1]? = some x ∧ h = unpT x ∧ A.ws[r + h.l.toNat]? = some (18446744073709551615 - x) := by
  unfold stT at hs
  split at hs
  · rename_i h1
    split at hs
    · rename_i x hx
      split at hs
      · rename_i h2
        injection hs with hs
        subst hs
        refine ⟨h1.1, of_decide_eq_true h2.1, by omega, x, hx, rfl, ?_⟩
        have := h2.2.2
        rw [show r + (unpT x).l.toNat = r - 1 + (unpT x).l.toNat + 1 by omega]
        exact this
      · cases hs
    · cases hs
  · cases hs
def headT (A : Ar) (r : Nat) : Option Hd :=
  match stT A A.use r with
  | some h => some h
  | none => if A.opn = true then stT A A.nxt r else none
theorem headT_in {A : Ar} (ok : A.Ok) {r : Nat} {h : Hd} (hs : headT A r = some h) : 1 ≤ r ∧ MayT h ∧ r + h.l.toNat + 1 ≤ 2 * A.n := by
  have h1 := ok.useIn; have h2 := ok.nxtIn
  unfold headT at hs
  split at hs
  · rename_i h' h3
    injection hs with hs; subst hs
    have := stT_in h3
    exact ⟨by omega, this.2.1, by omega⟩
  · split at hs
    · have := stT_in hs
      exact ⟨by omega, this.2.1, by omega⟩
    · cases hs
/-- where an object's cell is -/
def placeT (A : Ar) (r : Nat) (i : Int) : Option Nat :=
  match headT A r with
  | some h => if 0 ≤ i ∧ i < h.l then some (r + i.toNat) else none
  | none => none
theorem header_spec {w : World} {b g : Nat} {A : Ar} (h : ArW 92 w b g A) {r : Nat} (hr : r < 18446744073709551616) :
    Calls Try.prog 19 #[.pointer (some ⟨g, 0, none⟩), .int .u64 (r : Nat)] w fun e w' => e = .returned (hoV (headT A r)) ∧ Ext w w' := by
  refine vc_19 _ _ _ _ ?_
  have h1 := h.ok.useIn; have h2 := h.ok.nxtIn
  simp only [eq_self, false_or, or_false, true_and, and_true, decide_eq_true_eq, decide_eq_false_iff_not, gd_st, gd_sf, exists_eq_left', exists_eq_left, Option.some.injEq, Sl.eta, Nat.reduceLeDiff, Int.reduceLE, Int.reduceLT, Int.reduceEq, Int.reduceNe, Nat.reduceMul, Nat.reduceAdd, Nat.reduceSub, Int.toNat_natCast, beq_iff_eq, bne_iff_ne, beq_eq_false_iff_ne, bne_eq_false_iff_eq, pick_and, pick_or, Bool.and_eq_true, Bool.or_eq_true, Bool.and_eq_false_iff, Bool.or_eq_false_iff, ne_eq, not_false_eq_true, Bool.not_eq_true', Bool.not_eq_false', reduceCtorEq, Nat.le_refl, Nat.zero_mul, Nat.mul_one, Nat.zero_add, Int.reduceToNat, ones, one, add_mk, Decidable.not_not, cond_true, cond_false, true_implies, false_implies, implies_true, Bool.not_true, Bool.not_false]
  intro w1 n1
  have a1 := h.ext n1.ext
  refine ⟨_, _, rfl, ⟨a1.hd.cell 2, a1.hd.cell 3⟩, ⟨(in_spec a1 (s := A.use) h1.2.1 h1.2.2 hr).mono ?_⟩⟩
  rintro e w2 ⟨rfl, x2⟩
  refine ⟨_, _, _, _, _, rfl, fun w3 n3 => ⟨rfl, HB.can n3, fun w4 s4 => ?_⟩⟩
  obtain ⟨b4, y4⟩ := HB.made n3 s4
  have x14 := x2.trans y4
  have x04 := n1.ext.trans x14
  have a4 := h.ext x04
  have h4 := (Blk.new n1).ext x14
  have fin : ∀ w5 (hd : Hd), Ext w w5 → SetW w5 ⟨w.heap.size, 0, none⟩ [.int .i64 hd.k, .int .i64 hd.t, .int .i64 hd.l, .int .u64 (hd.r : Nat)] w5 → True := fun _ _ _ _ => trivial
  cases hst : stT A A.use r with
  | some hd =>
    have hh : headT A r = some hd := by unfold headT; rw [hst]
    rw [hst] at b4
    refine ⟨fun h => (by cases h), fun _ => ⟨_, _, _, _, rfl, ⟨b4.cell 0, b4.cell 1, b4.cell 2, b4.cell 3⟩, rfl, h4.canSetN 0 4 (by simp), fun w5 s5 => ?_⟩⟩
    have b5 : HB w5 w.heap.size hd := HB.set h4 s5
    refine ⟨_, _, _, _, rfl, ⟨b5.cell 0, b5.cell 1, b5.cell 2, b5.cell 3⟩, rt (by rw [hh]; rfl), x04.fresh s5.upd (by rintro i rfl; exact Nat.le_refl _)⟩
  | none =>
    rw [hst] at b4
    refine ⟨fun _ => ⟨A.opn, a4.hd.cell 6, fun ho => ⟨_, _, _, _, rfl, ⟨b4.cell 0, b4.cell 1, b4.cell 2, b4.cell 3⟩, rfl, h4.canSetN 0 4 (by simp), fun w5 s5 => ?_⟩, fun ho => ?_⟩, fun h => (by cases h)⟩
    · have hh : headT A r = none := by unfold headT; rw [hst]; simp [ho]
      have b5 : HB w5 w.heap.size hd0 := HB.set h4 s5
      refine ⟨_, _, _, _, rfl, ⟨b5.cell 0, b5.cell 1, b5.cell 2, b5.cell 3⟩, rt (by rw [hh]; rfl), x04.fresh s5.upd (by rintro i rfl; exact Nat.le_refl _)⟩
    · have hh : headT A r = stT A A.nxt r := by unfold headT; rw [hst]; simp [ho]
      refine ⟨_, _, rfl, ⟨a4.hd.cell 4, a4.hd.cell 5⟩, ⟨(in_spec a4 (s := A.nxt) h2.1 h2.2.1 hr).mono ?_⟩⟩
      rintro e w5 ⟨rfl, x5⟩
      have h5 := h4.ext x5
      refine ⟨_, _, _, _, _, rfl, rfl, h5.canSetN 0 4 (by simp), fun w6 s6 => ?_⟩
      have b6 : HB w6 w.heap.size ((stT A A.nxt r).getD hd0) := HB.set h5 s6
      refine ⟨_, _, _, _, rfl, ⟨b6.cell 0, b6.cell 1, b6.cell 2, b6.cell 3⟩, rt (by rw [hh]), (x04.trans x5).fresh s6.upd (by rintro i rfl; exact Nat.le_refl _)⟩
theorem rheader_spec {w : World} {b g : Nat} {A : Ar} (h : ArW 76 w b g A) {r : Nat} (hr : r < 18446744073709551616) :
    Calls Try.prog 48 #[.pointer (some ⟨g, 0, none⟩), .int .u64 (r : Nat)] w fun e w' => e = .returned (hoV (headT A r)) ∧ Ext w w' := by
  refine vc_48 _ _ _ _ ?_
  have h1 := h.ok.useIn; have h2 := h.ok.nxtIn
  simp only [eq_self, false_or, or_false, true_and, and_true, decide_eq_true_eq, decide_eq_false_iff_not, gd_st, gd_sf, exists_eq_left', exists_eq_left, Option.some.injEq, Sl.eta, Nat.reduceLeDiff, Int.reduceLE, Int.reduceLT, Int.reduceEq, Int.reduceNe, Nat.reduceMul, Nat.reduceAdd, Nat.reduceSub, Int.toNat_natCast, beq_iff_eq, bne_iff_ne, beq_eq_false_iff_ne, bne_eq_false_iff_eq, pick_and, pick_or, Bool.and_eq_true, Bool.or_eq_true, Bool.and_eq_false_iff, Bool.or_eq_false_iff, ne_eq, not_false_eq_true, Bool.not_eq_true', Bool.not_eq_false', reduceCtorEq, Nat.le_refl, Nat.zero_mul, Nat.mul_one, Nat.zero_add, Int.reduceToNat, ones, one, add_mk, Decidable.not_not, cond_true, cond_false, true_implies, false_implies, implies_true, Bool.not_true, Bool.not_false]
  intro w1 n1
  have a1 := h.ext n1.ext
  refine ⟨_, _, rfl, ⟨a1.hd.cell 2, a1.hd.cell 3⟩, ⟨(rin_spec a1 (s := A.use) h1.2.1 h1.2.2 hr).mono ?_⟩⟩
  rintro e w2 ⟨rfl, x2⟩
  refine ⟨_, _, _, _, _, rfl, fun w3 n3 => ⟨rfl, HB.can n3, fun w4 s4 => ?_⟩⟩
  obtain ⟨b4, y4⟩ := HB.made n3 s4
  have x14 := x2.trans y4
  have x04 := n1.ext.trans x14
  have a4 := h.ext x04
  have h4 := (Blk.new n1).ext x14
  cases hst : stT A A.use r with
  | some hd =>
    have hh : headT A r = some hd := by unfold headT; rw [hst]
    rw [hst] at b4
    refine ⟨fun h => (by cases h), fun _ => ⟨_, _, _, _, rfl, ⟨b4.cell 0, b4.cell 1, b4.cell 2, b4.cell 3⟩, rfl, h4.canSetN 0 4 (by simp), fun w5 s5 => ?_⟩⟩
    have b5 : HB w5 w.heap.size hd := HB.set h4 s5
    refine ⟨_, _, _, _, rfl, ⟨b5.cell 0, b5.cell 1, b5.cell 2, b5.cell 3⟩, rt (by rw [hh]; rfl), x04.fresh s5.upd (by rintro i rfl; exact Nat.le_refl _)⟩
  | none =>
    rw [hst] at b4
    refine ⟨fun _ => ⟨A.opn, a4.hd.cell 6, fun ho => ?_, fun ho => ⟨_, _, _, _, rfl, ⟨b4.cell 0, b4.cell 1, b4.cell 2, b4.cell 3⟩, rfl, h4.canSetN 0 4 (by simp), fun w5 s5 => ?_⟩⟩, fun h => (by cases h)⟩
    · have hh : headT A r = stT A A.nxt r := by unfold headT; rw [hst]; simp [ho]
      refine ⟨_, _, rfl, ⟨a4.hd.cell 4, a4.hd.cell 5⟩, ⟨(rin_spec a4 (s := A.nxt) h2.1 h2.2.1 hr).mono ?_⟩⟩
      rintro e w5 ⟨rfl, x5⟩
      have b5 := b4.ext x5
      refine ⟨_, _, _, _, _, rfl, rfl, b5.canSetN 0 4 (by simp), fun w6 s6 => ?_⟩
      have b6 : HB w6 w2.heap.size ((stT A A.nxt r).getD hd0) := HB.set b5 s6
      have z2 := (n1.ext.trans x2).size
      have z1 := (Blk.new n1).lt
      have z2' := x2.size
      have h6 := (h4.ext x5).upd s6.upd (by dsimp only; omega)
      refine ⟨_, _, _, _, rfl, ⟨b6.cell 0, b6.cell 1, b6.cell 2, b6.cell 3⟩, rfl, h6.canSetN 0 4 (by simp), fun w7 s7 => ?_⟩
      have b7 : HB w7 w.heap.size ((stT A A.nxt r).getD hd0) := HB.set h6 s7
      refine ⟨_, _, _, _, rfl, ⟨b7.cell 0, b7.cell 1, b7.cell 2, b7.cell 3⟩, rt (by rw [hh]), ((x04.trans x5).fresh s6.upd (by rintro i rfl; exact z2)).fresh s7.upd (by rintro i rfl; exact Nat.le_refl _)⟩
    · have hh : headT A r = none := by unfold headT; rw [hst]; simp [ho]
      have b5 : HB w5 w.heap.size hd0 := HB.set h4 s5
      refine ⟨_, _, _, _, rfl, ⟨b5.cell 0, b5.cell 1, b5.cell 2, b5.cell 3⟩, rt (by rw [hh]; rfl), x04.fresh s5.upd (by rintro i rfl; exact Nat.le_refl _)⟩
end Go.Proofs.Ytcmmdaginkhomaa.V
