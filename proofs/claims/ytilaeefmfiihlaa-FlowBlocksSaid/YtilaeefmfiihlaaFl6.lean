/-
  meet.
-/
import Derived.Test.YtilaeefmfiihlaaFl5
namespace Go.Proofs.Ytilaeefmfiihlaa.V
open Go Go.RowKit
set_option linter.unusedVariables false
set_option linter.unusedSimpArgs false
set_option maxRecDepth 100000

def ovI (ov : Nat → Option Nat) (i : Nat) : Int := match ov i with
  | none => -1
  | some z => (z : Int)
theorem ovI_some {ov : Nat → Option Nat} {x z : Nat} (h : ov x = some z) : ovI ov x = (z : Int) := by unfold ovI; rw [h]
def aI : Option Nat → Int
  | none => -1
  | some x => (x : Int)
def ovV (n : Nat) (ov : Nat → Option Nat) : List Value := (List.range n).map fun i => .int .i64 (ovI ov i)
theorem ovV_get {n i : Nat} {ov : Nat → Option Nat} (h : i < n) : (ovV n ov)[i]? = some (.int .i64 (ovI ov i)) := by
  unfold ovV; rw [List.getElem?_map, List.getElem?_range h]; rfl
@[simp] theorem ovV_length (n : Nat) (ov : Nat → Option Nat) : (ovV n ov).length = n := by simp [ovV]
theorem ovV_set {n x cc : Nat} {ov : Nat → Option Nat} : (ovV n ov).set x (.int .i64 (cc : Nat)) = ovV n (setO ov x cc) := by
  apply List.ext_getElem?
  intro i
  rw [List.getElem?_set, ovV_length]
  by_cases hi : i < n
  · rw [ovV_get hi]
    by_cases e : x = i
    · subst e; rw [if_pos rfl, if_pos hi, ovV_get hi, ovI_some (z := cc) (by unfold setO; rw [if_pos rfl])]
    · rw [if_neg e, ovV_get hi]; unfold ovI setO; rw [if_neg (fun h => e h.symm)]
  · rw [List.getElem?_eq_none (l := ovV n (setO ov x cc)) (by rw [ovV_length]; omega)]
    by_cases e : x = i
    · rw [if_pos e, if_neg (by omega)]
    · rw [if_neg e]; exact List.getElem?_eq_none (by rw [ovV_length]; omega)
section
variable {w w' : World} {g bo bd : Nat} {c : List Ins} {v0 v1 v2 : Value} {E : Nat → Nat → Prop} {R : Nat → Prop} {o : Nat → Nat} {ov : Nat → Option Nat} {dl : List Value}
theorem meet_spec (hd : Blk w g 51 [v0, v1, v2, .slice (some ⟨bo, 0, none⟩) c.length c.length, .slice (some ⟨bd, 0, none⟩) c.length c.length]) (hO : Blk w bo 3 (ovV c.length ov)) (hD : Blk w bd 3 dl) (hdl : ∀ x, R x → dl[x]? = some (.int .i64 (o x : Nat)))
    (I : Inv E R o ov) (O : Ord E R o) (hR : ∀ x, R x → x < c.length) (hm : c.length ≤ 1000) {a : Option Nat} (ha : ∀ x, a = some x → R x ∧ Pd ov x) {b : Nat} (rb : R b) (pb : Pd ov b) :
    Calls Try.prog 41 #[.pointer (some ⟨g, 0, none⟩), .int .i64 (aI a), .int .i64 (b : Nat)] w fun e w' => ∃ cc : Nat, e = .returned (.int .i64 (cc : Nat)) ∧ R cc ∧ Pd ov cc ∧ (∀ v, Ch ov cc v ↔ (∀ x, a = some x → Ch ov x v) ∧ Ch ov b v) ∧ Ext w w' := by
  refine vc_41 _ _ _ _ _ ?_
  simp only [eq_self, false_or, or_false, true_and, and_true, decide_eq_true_eq, decide_eq_false_iff_not, gd_st, gd_sf, exists_eq_left', exists_eq_left, Option.some.injEq, Sl.eta, Nat.reduceLeDiff, Int.reduceLE, Int.reduceLT, Int.reduceEq, Int.reduceNe, Nat.reduceMul, Nat.reduceAdd, Nat.reduceSub, Int.toNat_natCast, beq_iff_eq, bne_iff_ne, beq_eq_false_iff_ne, bne_eq_false_iff_eq, pick_and, pick_or, Bool.and_eq_true, Bool.or_eq_true, Bool.and_eq_false_iff, Bool.or_eq_false_iff, ne_eq, not_false_eq_true, Bool.not_eq_true', Bool.not_eq_false', reduceCtorEq, Nat.le_refl, Nat.zero_mul, Nat.mul_one, Nat.zero_add, Int.reduceToNat, ones, one, add_mk, Decidable.not_not, cond_true, cond_false, true_implies, false_implies, implies_true, Bool.not_true, Bool.not_false]
  refine ⟨fun h0 => ?_, fun h0 => ?_⟩
  · cases a with
    | none => exact ⟨b, rfl, rb, pb, fun v => ⟨fun h => ⟨fun x hx => (by cases hx), h⟩, fun h => h.2⟩, Ext.refl _⟩
    | some x => have h1 : ((x : Nat) : Int) < 0 := h0; omega
  cases a with
  | none => exact absurd (show aI none < 0 by decide) h0
  | some a0 =>
  obtain ⟨ra, pa⟩ := ha a0 rfl
  rw [show aI (some a0) = (a0 : Int) from rfl]
  refine ⟨fun n n1 w' => ∃ x y : Nat, n = (x : Nat) ∧ n1 = (y : Nat) ∧ R x ∧ Pd ov x ∧ R y ∧ Pd ov y ∧ (∀ v, (Ch ov x v ∧ Ch ov y v) ↔ (Ch ov a0 v ∧ Ch ov b v)) ∧ Ext w w', fun n n1 _ => o n.toNat + o n1.toNat, ⟨a0, b, rfl, rfl, ra, pa, rb, pb, fun _ => Iff.rfl, Ext.refl _⟩, ?_⟩
  rintro _ n n1 w1 ⟨x, y, rfl, rfl, rx, px, ry, py, hv, x1⟩
  refine ⟨fun hne => ?_, fun he => ?_⟩
  rotate_left
  · have : x = y := by omega
    subst this
    exact ⟨x, rfl, rx, px, fun v => ⟨fun h => ⟨fun z hz => by injection hz with hz; subst hz; exact ((hv v).1 ⟨h, h⟩).1, ((hv v).1 ⟨h, h⟩).2⟩, fun h => ((hv v).2 ⟨h.1 a0 rfl, h.2⟩).1⟩, x1⟩
  have hd1 := hd.ext x1
  have D1 := hD.ext x1
  have O1 := hO.ext x1
  have xl := hR x rx; have yl := hR y ry
  have dcell : ∀ {w2 : World} {z : Nat}, Blk w2 bd 3 dl → R z → w2.cell? ((⟨bd, 0, none⟩ : Addr).add z) = some (.int .i64 (o z : Nat)) := fun hb rz => by rw [add_mk, Nat.zero_add, hb.cell]; exact hdl _ rz
  refine ⟨⟨some ⟨bd, 0, none⟩, c.length, c.length⟩, hd1.cell 4, by omega, by dsimp only; omega, _, rfl, _, by rw [Int.toNat_natCast]; exact dcell D1 rx, ⟨some ⟨bd, 0, none⟩, c.length, c.length⟩, hd1.cell 4, by omega, by dsimp only; omega, _, rfl, _, by rw [Int.toNat_natCast]; exact dcell D1 ry, fun w2 q2 => ?_⟩
  have hd2 := hd1.ext q2.ext
  have O2 := O1.ext q2.ext
  refine ⟨fun hlt => ?_, fun hge => ?_⟩
  · obtain ⟨x', hx', rx', px', lx', hv'⟩ := meet_step (b := y) I O rx px (by omega)
    refine ⟨⟨some ⟨bo, 0, none⟩, c.length, c.length⟩, hd2.cell 3, by omega, by dsimp only; omega, _, rfl, ((x' : Nat) : Int), ?_, ⟨x', y, rfl, rfl, rx', px', ry, py, fun v => by rw [← hv' v]; exact hv v, x1.trans q2.ext⟩, by simp only [Int.toNat_natCast]; omega⟩
    rw [Int.toNat_natCast, add_mk, Nat.zero_add, O2.cell, ovV_get xl, ovI_some hx']
  · have hxy : o x ≠ o y := fun e => hne (by rw [O.inj x y rx ry e])
    obtain ⟨y', hy', ry', py', ly', hv'⟩ := meet_step (b := x) I O ry py (by omega)
    refine ⟨⟨some ⟨bo, 0, none⟩, c.length, c.length⟩, hd2.cell 3, by omega, by dsimp only; omega, _, rfl, ((y' : Nat) : Int), ?_, ⟨x, y', rfl, rfl, rx, px, ry', py', fun v => ?_, x1.trans q2.ext⟩, by simp only [Int.toNat_natCast]; omega⟩
    · rw [Int.toNat_natCast, add_mk, Nat.zero_add, O2.cell, ovV_get yl, ovI_some hy']
    · rw [← hv v, And.comm, ← hv' v, And.comm]
end
end Go.Proofs.Ytilaeefmfiihlaa.V
