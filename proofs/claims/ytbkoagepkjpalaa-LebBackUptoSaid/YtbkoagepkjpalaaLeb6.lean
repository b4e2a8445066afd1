/-
  Package leb: the document's example.
-/
import Derived.Test.YtbkoagepkjpalaaLeb5
namespace Go.Proofs.Ytbkoagepkjpalaa.V
open Go Go.RowKit
set_option linter.unusedVariables false
set_option linter.unusedSimpArgs false

theorem form300 : form 300 = [172, 2] := by rw [form_big (by decide), form_small (by decide)]
theorem fold_neg1 : fold (-1) = 1 := by decide
theorem shown_spec (w : World) : Calls Try.prog 9 #[] w fun e w' => e = .returned (.bool true) ∧ Ext w w' := by
  refine vc_9 _ _ ?_
  simp only [eq_self, true_and, and_true, decide_eq_true_eq, decide_eq_false_iff_not, gd_st, gd_sf, exists_eq_left', exists_eq_left, Option.some.injEq, Sl.eta, Nat.reduceLeDiff, Int.reduceLE, Int.reduceLT, Int.reduceEq, Int.reduceNe, Nat.reduceMul, Nat.reduceAdd, Nat.reduceSub, Int.toNat_natCast, beq_iff_eq, bne_iff_ne, beq_eq_false_iff_ne, bne_eq_false_iff_eq, pick_and, pick_or, Bool.and_eq_true, Bool.or_eq_true, Bool.and_eq_false_iff, Bool.or_eq_false_iff, ne_eq, not_false_eq_true, Bool.not_eq_true', Bool.not_eq_false', reduceCtorEq, Nat.le_refl, Nat.zero_mul, Nat.mul_one, Nat.zero_add, Int.reduceToNat, ones, one, add_mk, Decidable.not_not, cond_true, cond_false, true_implies, false_implies, implies_true, Bool.not_true, Bool.not_false]
  intro w1 h1
  have hr1 : Rd w1 1 ⟨some ⟨w.heap.size, 0, none⟩, 1, 1⟩ (bv [7]) := own_one h1
  refine ⟨(put_spec ⟨some ⟨w.heap.size, 0, none⟩, 1, 1⟩ [7] 300 w1 hr1 (by decide) (by simp)).mono ?_⟩
  rintro e w2 ⟨r2, rfl, ho2, hx2⟩
  have hn2 := ho2.len1
  rw [form300] at ho2 hn2
  refine ⟨r2, rfl, ⟨(putint_spec r2 _ (-1) w2 ho2.rd (by decide) (by decide) (by simp at hn2; omega)).mono ?_⟩⟩
  rintro e w3 ⟨r3, rfl, ho3, hx3⟩
  have hn3 := ho3.len1
  rw [fold_neg1, form_small (by decide)] at ho3 hn3
  refine ⟨r3, rfl, ⟨(newreader_spec r3 _ w3 ho3.rd (by simp at hn3; omega) (by decide)).mono ?_⟩⟩
  rintro e w4 ⟨g, sl, rfl, hrd, hx4⟩
  refine ⟨_, rfl, ?_⟩
  have hx04 : Ext w w4 := ((h1.ext.trans hx2).trans hx3).trans hx4
  have hg : w.heap.size ≤ g := Nat.le_trans ((h1.ext.trans hx2).trans hx3).size hrd.base
  have next : ∀ {a b : World}, Ext w a → Upd (· = g) a b → Ext w b := fun ha hb => ha.fresh hb (by rintro i rfl; exact hg)
  refine ⟨fun _ => ⟨_, w4, (ho3.rd.ext hx4).text tab_ok rfl rfl rfl, ⟨fun h => ?_, fun _ => ?_⟩⟩, fun h => by simp at h⟩
  · refine (h ?_).elim
    rw [ByteArray.toList_eq, ByteArray.toList_eq]
    rfl
  refine ⟨(byte_spec hrd).mono ?_⟩
  rintro e w5 ⟨rfl, hrd5, u5⟩
  refine ⟨_, rfl, ⟨(uint_spec 300 5 hrd5).mono ?_⟩⟩
  rintro e w6 ⟨rfl, hrd6, u6⟩
  refine ⟨_, rfl, ⟨(int_spec hrd6).mono ?_⟩⟩
  rintro e w7 ⟨rfl, hrd7, u7⟩
  refine ⟨_, rfl, ⟨(fault_spec hrd7).mono ?_⟩⟩
  rintro e w8 ⟨rfl, q8⟩
  have hrd8 := hrd7.ext q8.ext
  refine ⟨_, _, rfl, ⟨(byte_spec hrd8).mono ?_⟩⟩
  rintro e w9 ⟨rfl, hrd9, u9⟩
  refine ⟨_, rfl, ⟨(fault_spec hrd9).mono ?_⟩⟩
  rintro e w10 ⟨rfl, q10⟩
  have hx10 : Ext w w10 := (next ((next (next (next hx04 u5) u6) u7).trans q8.ext) u9).trans q10.ext
  have b1 : RS.byte ([7] ++ [172, 2] ++ [1]) ⟨0, 0, 0⟩ = (7, ⟨1, 0, 0⟩) := rfl
  have b2 : RS.uint ([7] ++ [172, 2] ++ [1]) ⟨1, 0, 0⟩ 300 5 = (300, ⟨3, 0, 0⟩) := rfl
  have b3 : RS.int ([7] ++ [172, 2] ++ [1]) ⟨3, 0, 0⟩ = (-1, ⟨4, 0, 0⟩) := rfl
  have b4 : RS.byte ([7] ++ [172, 2] ++ [1]) ⟨4, 0, 0⟩ = (0, ⟨4, 4, 2⟩) := rfl
  rw [b1, b2, b3, b4]
  refine ⟨_, _, rfl, ?_⟩
  refine ⟨fun _ => ⟨fun _ => ⟨fun _ => ⟨fun _ => ⟨fun _ => ⟨fun _ => ⟨fun _ => ⟨(size_spec 300 w10 (by decide)).mono ?_⟩, fun h => (h rfl).elim⟩, fun h => (h rfl).elim⟩, fun h => (h rfl).elim⟩, fun h => (h rfl).elim⟩, fun h => (h rfl).elim⟩, fun h => (h rfl).elim⟩, fun h => (h rfl).elim⟩
  rintro e w11 ⟨rfl, rfl⟩
  rw [form300]
  exact ⟨_, rfl, rfl, hx10⟩
end Go.Proofs.Ytbkoagepkjpalaa.V
