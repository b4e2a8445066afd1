/-
  Package stack: slots, Enter, New, Frame.
-/
import Derived.Test.YtodbmiflnellcaaSt3
namespace Go.Proofs.Ytodbmiflnellcaa.V
open Go Go.RowKit
set_option linter.unusedVariables false
set_option linter.unusedSimpArgs false

def onAt {α : Type} (L : List Fr) (k : Int) (d : α) (kf : Fr → α × Fr) : α × List Fr :=
  if k < 0 then (d, L) else
    match L.drop k.toNat with
    | [] => (d, L)
    | f :: C => ((kf f).1, L.take k.toNat ++ (kf f).2 :: C)
theorem onAt_in {α : Type} (A C : List Fr) (f : Fr) (d : α) (kf : Fr → α × Fr) : onAt (A ++ f :: C) (A.length : Nat) d kf = ((kf f).1, A ++ (kf f).2 :: C) := by
  rw [onAt, if_neg (by omega), Int.toNat_natCast, List.drop_left, List.take_left]
theorem onAt_out {α : Type} (L : List Fr) (k : Int) (d : α) (kf : Fr → α × Fr) (h : k < 0 ∨ (L.length : Int) ≤ k) : onAt L k d kf = (d, L) := by
  unfold onAt
  split
  · rfl
  · rw [List.drop_eq_nil_of_le (by omega)]
def slotF (i : Int) (f : Fr) : (Nat × Int) × Fr := if 0 ≤ i ∧ i < f.ls.length + f.ops.length then (((f.ls ++ f.ops).getD i.toNat 0, 0), f) else ((0, 20), f)
def setSlotF (i : Int) (x : Nat) (f : Fr) : Int × Fr :=
  if 0 ≤ i ∧ i < f.ls.length + f.ops.length then
    if i < f.ls.length then (0, { f with ls := f.ls.set i.toNat x }) else (0, { f with ops := f.ops.set (i.toNat - f.ls.length) x })
  else (20, f)

section
variable {w w' w1 : World} {g gr words : Nat} {fs : Sl} {cs : List Nat} {L A C : List Fr} {f : Fr} {F : Nat → Prop}
theorem slotp_in (i : Int) (h : StkAt w g gr words fs cs (A ++ f :: C)) (h0 : 0 ≤ i) (h1 : i < f.ls.length + f.ops.length) :
    Calls Try.prog 33 #[.pointer (some ⟨g, 0, none⟩), .int .i64 (A.length : Nat), .int .i64 i] w fun e w' =>
      e = .returned (.tuple #[.pointer (some ⟨gr, used A + 3 + i.toNat, none⟩), .bool true]) ∧ Ext w w' := by
  refine vc_33 _ _ _ _ _ ?_
  simp only [eq_self, true_and, and_true, decide_eq_true_eq, decide_eq_false_iff_not, gd_st, gd_sf, exists_eq_left', exists_eq_left, Option.some.injEq, Sl.eta, Nat.reduceLeDiff, Int.reduceLE, Int.reduceLT, Int.reduceEq, Int.reduceNe, Nat.reduceMul, Nat.reduceAdd, Nat.reduceSub, Int.toNat_natCast, beq_iff_eq, bne_iff_ne, beq_eq_false_iff_ne, bne_eq_false_iff_eq, pick_and, pick_or, Bool.and_eq_true, Bool.or_eq_true, Bool.and_eq_false_iff, Bool.or_eq_false_iff, ne_eq, not_false_eq_true, Bool.not_eq_true', Bool.not_eq_false', reduceCtorEq, Nat.le_refl, Nat.zero_mul, Nat.mul_one, Nat.zero_add, Int.reduceToNat, ones, one, add_mk, Decidable.not_not, cond_true, cond_false, true_implies, false_implies, implies_true, Bool.not_true, Bool.not_false]
  refine ⟨(frame_in h).mono ?_⟩
  rintro e w1 ⟨rfl, hq⟩
  have hr := h.room
  have hg := h.big
  have hz : f.size = 3 + f.ls.length + f.hi := rfl
  have hf := h.at_
  have ho := hf.ok.ops
  have hls := hf.ok.ls
  have hhi := hf.ok.hi
  refine ⟨⟨some ⟨gr, used A, none⟩, words - used A, words - used A⟩, rfl, fun w2 hq2 => ⟨fun _ => False, ?_⟩⟩
  have h2 := (h.ext hq.ext).ext hq2.ext
  simp only [Option.isNone_some]
  simp only [eq_self, true_and, and_true, decide_eq_true_eq, decide_eq_false_iff_not, gd_st, gd_sf, exists_eq_left', exists_eq_left, Option.some.injEq, Sl.eta, Nat.reduceLeDiff, Int.reduceLE, Int.reduceLT, Int.reduceEq, Int.reduceNe, Nat.reduceMul, Nat.reduceAdd, Nat.reduceSub, Int.toNat_natCast, beq_iff_eq, bne_iff_ne, beq_eq_false_iff_ne, bne_eq_false_iff_eq, pick_and, pick_or, Bool.and_eq_true, Bool.or_eq_true, Bool.and_eq_false_iff, Bool.or_eq_false_iff, ne_eq, not_false_eq_true, Bool.not_eq_true', Bool.not_eq_false', reduceCtorEq, Nat.le_refl, Nat.zero_mul, Nat.mul_one, Nat.zero_add, Int.reduceToNat, ones, one, add_mk, Decidable.not_not, cond_true, cond_false, true_implies, false_implies, implies_true, Bool.not_true, Bool.not_false]
  refine ⟨fun _ => ⟨by omega, _, fun w3 hu => (h2.ext hu).cellAt hf.ht, ⟨(locals_spec h2 _ _ hf (by omega)).mono ?_⟩⟩, fun hi => by omega⟩
  rintro e w3 ⟨rfl, hq3⟩
  refine ⟨_, rfl, hq3.ext, ?_⟩
  rw [wrap_i64 (n := (f.ops.length : Nat)) (by omega) (by omega), wrap_i64 (n := _ + _) (by omega) (by omega), wrap_i64 (n := 3 + i) (by omega) (by omega)]
  refine ⟨fun hi => by omega, fun hi => ⟨by omega, by omega, ?_, hq.ext.trans (hq2.ext.trans hq3.ext)⟩⟩
  rw [show used A + (3 + i).toNat = used A + 3 + i.toNat by omega]
theorem slotp_out (k i : Int) (h : StkAt w g gr words fs cs L) (ho : ∀ A f C, L = A ++ f :: C → k = (A.length : Int) → ¬ (0 ≤ i ∧ i < f.ls.length + f.ops.length)) :
    Calls Try.prog 33 #[.pointer (some ⟨g, 0, none⟩), .int .i64 k, .int .i64 i] w fun e w' =>
      e = .returned (.tuple #[.pointer none, .bool false]) ∧ Ext w w' := by
  refine vc_33 _ _ _ _ _ ?_
  simp only [eq_self, true_and, and_true, decide_eq_true_eq, decide_eq_false_iff_not, gd_st, gd_sf, exists_eq_left', exists_eq_left, Option.some.injEq, Sl.eta, Nat.reduceLeDiff, Int.reduceLE, Int.reduceLT, Int.reduceEq, Int.reduceNe, Nat.reduceMul, Nat.reduceAdd, Nat.reduceSub, Int.toNat_natCast, beq_iff_eq, bne_iff_ne, beq_eq_false_iff_ne, bne_eq_false_iff_eq, pick_and, pick_or, Bool.and_eq_true, Bool.or_eq_true, Bool.and_eq_false_iff, Bool.or_eq_false_iff, ne_eq, not_false_eq_true, Bool.not_eq_true', Bool.not_eq_false', reduceCtorEq, Nat.le_refl, Nat.zero_mul, Nat.mul_one, Nat.zero_add, Int.reduceToNat, ones, one, add_mk, Decidable.not_not, cond_true, cond_false, true_implies, false_implies, implies_true, Bool.not_true, Bool.not_false]
  rcases split_at L k with hk | ⟨A, f, C, rfl, rfl⟩
  · refine ⟨(frame_out h k hk).mono ?_⟩
    rintro e w1 ⟨rfl, hq⟩
    refine ⟨⟨none, 0, 0⟩, rfl, fun w2 hq2 => ⟨fun _ => False, ?_⟩⟩
    simp only [Option.isNone_none]
    simp only [eq_self, true_and, and_true, decide_eq_true_eq, decide_eq_false_iff_not, gd_st, gd_sf, exists_eq_left', exists_eq_left, Option.some.injEq, Sl.eta, Nat.reduceLeDiff, Int.reduceLE, Int.reduceLT, Int.reduceEq, Int.reduceNe, Nat.reduceMul, Nat.reduceAdd, Nat.reduceSub, Int.toNat_natCast, beq_iff_eq, bne_iff_ne, beq_eq_false_iff_ne, bne_eq_false_iff_eq, pick_and, pick_or, Bool.and_eq_true, Bool.or_eq_true, Bool.and_eq_false_iff, Bool.or_eq_false_iff, ne_eq, not_false_eq_true, Bool.not_eq_true', Bool.not_eq_false', reduceCtorEq, Nat.le_refl, Nat.zero_mul, Nat.mul_one, Nat.zero_add, Int.reduceToNat, ones, one, add_mk, Decidable.not_not, cond_true, cond_false, true_implies, false_implies, implies_true, Bool.not_true, Bool.not_false]
    exact hq.ext.trans hq2.ext
  · have ho := ho A f C rfl rfl
    refine ⟨(frame_in h).mono ?_⟩
    rintro e w1 ⟨rfl, hq⟩
    have hr := h.room
    have hg := h.big
    have hz : f.size = 3 + f.ls.length + f.hi := rfl
    have hf := h.at_
    have hop := hf.ok.ops
    have hls := hf.ok.ls
    have hhi := hf.ok.hi
    refine ⟨⟨some ⟨gr, used A, none⟩, words - used A, words - used A⟩, rfl, fun w2 hq2 => ⟨fun _ => False, ?_⟩⟩
    have h2 := (h.ext hq.ext).ext hq2.ext
    simp only [Option.isNone_some]
    simp only [eq_self, true_and, and_true, decide_eq_true_eq, decide_eq_false_iff_not, gd_st, gd_sf, exists_eq_left', exists_eq_left, Option.some.injEq, Sl.eta, Nat.reduceLeDiff, Int.reduceLE, Int.reduceLT, Int.reduceEq, Int.reduceNe, Nat.reduceMul, Nat.reduceAdd, Nat.reduceSub, Int.toNat_natCast, beq_iff_eq, bne_iff_ne, beq_eq_false_iff_ne, bne_eq_false_iff_eq, pick_and, pick_or, Bool.and_eq_true, Bool.or_eq_true, Bool.and_eq_false_iff, Bool.or_eq_false_iff, ne_eq, not_false_eq_true, Bool.not_eq_true', Bool.not_eq_false', reduceCtorEq, Nat.le_refl, Nat.zero_mul, Nat.mul_one, Nat.zero_add, Int.reduceToNat, ones, one, add_mk, Decidable.not_not, cond_true, cond_false, true_implies, false_implies, implies_true, Bool.not_true, Bool.not_false]
    refine ⟨fun hi => ⟨by omega, _, fun w3 hu => (h2.ext hu).cellAt hf.ht, ⟨(locals_spec h2 _ _ hf (by omega)).mono ?_⟩⟩, fun hi => hq.ext.trans hq2.ext⟩
    rintro e w3 ⟨rfl, hq3⟩
    refine ⟨_, rfl, hq3.ext, ?_⟩
    rw [wrap_i64 (n := (f.ops.length : Nat)) (by omega) (by omega), wrap_i64 (n := _ + _) (by omega) (by omega)]
    exact ⟨fun _ => hq.ext.trans (hq2.ext.trans hq3.ext), fun hi2 => absurd (by omega) ho⟩
theorem slot_spec (k i : Int) (h : Stk w g F words L) : Calls Try.prog 22 #[.pointer (some ⟨g, 0, none⟩), .int .i64 k, .int .i64 i] w fun e w' =>
    e = .returned (.tuple #[.int .u64 ((onAt L k (0, 20) (slotF i)).1.1 : Nat), .int .i64 (onAt L k (0, 20) (slotF i)).1.2]) ∧ Ext w w' := by
  obtain ⟨gr, fs, cs, h, f1, f2, f3, f4⟩ := h
  refine vc_22 _ _ _ _ _ ?_
  simp only [eq_self, true_and, and_true, decide_eq_true_eq, decide_eq_false_iff_not, gd_st, gd_sf, exists_eq_left', exists_eq_left, Option.some.injEq, Sl.eta, Nat.reduceLeDiff, Int.reduceLE, Int.reduceLT, Int.reduceEq, Int.reduceNe, Nat.reduceMul, Nat.reduceAdd, Nat.reduceSub, Int.toNat_natCast, beq_iff_eq, bne_iff_ne, beq_eq_false_iff_ne, bne_eq_false_iff_eq, pick_and, pick_or, Bool.and_eq_true, Bool.or_eq_true, Bool.and_eq_false_iff, Bool.or_eq_false_iff, ne_eq, not_false_eq_true, Bool.not_eq_true', Bool.not_eq_false', reduceCtorEq, Nat.le_refl, Nat.zero_mul, Nat.mul_one, Nat.zero_add, Int.reduceToNat, ones, one, add_mk, Decidable.not_not, cond_true, cond_false, true_implies, false_implies, implies_true, Bool.not_true, Bool.not_false]
  by_cases hin : ∃ A f C, L = A ++ f :: C ∧ k = (A.length : Int) ∧ 0 ≤ i ∧ i < f.ls.length + f.ops.length
  · obtain ⟨A, f, C, rfl, rfl, h0, h1⟩ := hin
    refine ⟨(slotp_in i h h0 h1).mono ?_⟩
    rintro e w1 ⟨rfl, hx⟩
    have hf := h.at_
    rw [onAt_in, slotF, if_pos ⟨h0, h1⟩]
    refine ⟨_, _, rfl, ?_⟩
    simp only [eq_self, true_and, and_true, decide_eq_true_eq, decide_eq_false_iff_not, gd_st, gd_sf, exists_eq_left', exists_eq_left, Option.some.injEq, Sl.eta, Nat.reduceLeDiff, Int.reduceLE, Int.reduceLT, Int.reduceEq, Int.reduceNe, Nat.reduceMul, Nat.reduceAdd, Nat.reduceSub, Int.toNat_natCast, beq_iff_eq, bne_iff_ne, beq_eq_false_iff_ne, bne_eq_false_iff_eq, pick_and, pick_or, Bool.and_eq_true, Bool.or_eq_true, Bool.and_eq_false_iff, Bool.or_eq_false_iff, ne_eq, not_false_eq_true, Bool.not_eq_true', Bool.not_eq_false', reduceCtorEq, Nat.le_refl, Nat.zero_mul, Nat.mul_one, Nat.zero_add, Int.reduceToNat, ones, one, add_mk, Decidable.not_not, cond_true, cond_false, true_implies, false_implies, implies_true, Bool.not_true, Bool.not_false]
    refine ⟨_, (h.ext hx).cellAt ?_, rfl, hx⟩
    rw [List.getD_eq_getElem?_getD, List.getElem?_append]
    split
    · rename_i hlt
      exact hf.ls _ _ (by rw [List.getElem?_eq_getElem hlt]; rfl)
    · rename_i hge
      have hlt : i.toNat - f.ls.length < f.ops.length := by omega
      have := hf.ops _ _ (List.getElem?_eq_getElem hlt)
      rw [show used A + 3 + i.toNat = used A + 3 + f.ls.length + (i.toNat - f.ls.length) by omega, this, List.getElem?_eq_getElem hlt]
      rfl
  · have hout : ∀ A f C, L = A ++ f :: C → k = (A.length : Int) → ¬ (0 ≤ i ∧ i < f.ls.length + f.ops.length) := fun A f C e1 e2 e3 => hin ⟨A, f, C, e1, e2, e3⟩
    refine ⟨(slotp_out k i h hout).mono ?_⟩
    rintro e w1 ⟨rfl, hx⟩
    refine ⟨_, _, rfl, ?_⟩
    simp only [eq_self, true_and, and_true, decide_eq_true_eq, decide_eq_false_iff_not, gd_st, gd_sf, exists_eq_left', exists_eq_left, Option.some.injEq, Sl.eta, Nat.reduceLeDiff, Int.reduceLE, Int.reduceLT, Int.reduceEq, Int.reduceNe, Nat.reduceMul, Nat.reduceAdd, Nat.reduceSub, Int.toNat_natCast, beq_iff_eq, bne_iff_ne, beq_eq_false_iff_ne, bne_eq_false_iff_eq, pick_and, pick_or, Bool.and_eq_true, Bool.or_eq_true, Bool.and_eq_false_iff, Bool.or_eq_false_iff, ne_eq, not_false_eq_true, Bool.not_eq_true', Bool.not_eq_false', reduceCtorEq, Nat.le_refl, Nat.zero_mul, Nat.mul_one, Nat.zero_add, Int.reduceToNat, ones, one, add_mk, Decidable.not_not, cond_true, cond_false, true_implies, false_implies, implies_true, Bool.not_true, Bool.not_false]
    refine ⟨?_, hx⟩
    rcases split_at L k with hk | ⟨A, f, C, rfl, rfl⟩
    · rw [onAt_out _ _ _ _ hk]; rfl
    · rw [onAt_in, slotF, if_neg (hout A f C rfl rfl)]; rfl
theorem setSlot_spec (k i : Int) (x : Nat) (h : Stk w g F words L) : Calls Try.prog 19 #[.pointer (some ⟨g, 0, none⟩), .int .i64 k, .int .i64 i, .int .u64 (x : Nat)] w fun e w' =>
    e = .returned (.int .i64 (onAt L k 20 (setSlotF i x)).1) ∧ Stk w' g F words (onAt L k 20 (setSlotF i x)).2 ∧ Upd F w w' := by
  obtain ⟨gr, fs, cs, h, f1, f2, f3, f4⟩ := h
  refine vc_19 _ _ _ _ _ _ ?_
  simp only [eq_self, true_and, and_true, decide_eq_true_eq, decide_eq_false_iff_not, gd_st, gd_sf, exists_eq_left', exists_eq_left, Option.some.injEq, Sl.eta, Nat.reduceLeDiff, Int.reduceLE, Int.reduceLT, Int.reduceEq, Int.reduceNe, Nat.reduceMul, Nat.reduceAdd, Nat.reduceSub, Int.toNat_natCast, beq_iff_eq, bne_iff_ne, beq_eq_false_iff_ne, bne_eq_false_iff_eq, pick_and, pick_or, Bool.and_eq_true, Bool.or_eq_true, Bool.and_eq_false_iff, Bool.or_eq_false_iff, ne_eq, not_false_eq_true, Bool.not_eq_true', Bool.not_eq_false', reduceCtorEq, Nat.le_refl, Nat.zero_mul, Nat.mul_one, Nat.zero_add, Int.reduceToNat, ones, one, add_mk, Decidable.not_not, cond_true, cond_false, true_implies, false_implies, implies_true, Bool.not_true, Bool.not_false]
  by_cases hin : ∃ A f C, L = A ++ f :: C ∧ k = (A.length : Int) ∧ 0 ≤ i ∧ i < f.ls.length + f.ops.length
  · obtain ⟨A, f, C, rfl, rfl, h0, h1⟩ := hin
    refine ⟨(slotp_in i h h0 h1).mono ?_⟩
    rintro e w1 ⟨rfl, hx⟩
    have h1' := h.ext hx
    have hf := h.at_
    have hr := h.room
    have hz : f.size = 3 + f.ls.length + f.hi := rfl
    have ho := hf.ok.ops
    rw [onAt_in, setSlotF, if_pos ⟨h0, h1⟩]
    refine ⟨_, _, rfl, ?_⟩
    simp only [eq_self, true_and, and_true, decide_eq_true_eq, decide_eq_false_iff_not, gd_st, gd_sf, exists_eq_left', exists_eq_left, Option.some.injEq, Sl.eta, Nat.reduceLeDiff, Int.reduceLE, Int.reduceLT, Int.reduceEq, Int.reduceNe, Nat.reduceMul, Nat.reduceAdd, Nat.reduceSub, Int.toNat_natCast, beq_iff_eq, bne_iff_ne, beq_eq_false_iff_ne, bne_eq_false_iff_eq, pick_and, pick_or, Bool.and_eq_true, Bool.or_eq_true, Bool.and_eq_false_iff, Bool.or_eq_false_iff, ne_eq, not_false_eq_true, Bool.not_eq_true', Bool.not_eq_false', reduceCtorEq, Nat.le_refl, Nat.zero_mul, Nat.mul_one, Nat.zero_add, Int.reduceToNat, ones, one, add_mk, Decidable.not_not, cond_true, cond_false, true_implies, false_implies, implies_true, Bool.not_true, Bool.not_false]
    refine ⟨h1'.can (by omega), fun w2 hs => ?_⟩
    have hu : Upd F w w2 := hx.upd (hs.upd.mono fun k _ hk e => hk (e ▸ f2))
    by_cases hlt : i < f.ls.length
    · rw [if_pos hlt]
      exact ⟨rfl, .intro (h1'.set1 hs (by omega) (by omega) (by simp [Fr.size]) (hf.setLocal (by omega) h1'.roomS)) f1 f2 f3 f4, hu⟩
    · rw [if_neg hlt]
      rw [show used A + 3 + i.toNat = used A + 3 + f.ls.length + (i.toNat - f.ls.length) by omega] at hs
      exact ⟨rfl, .intro (h1'.set1 hs (by omega) (by omega) rfl (hf.setOp (by omega) h1'.roomS)) f1 f2 f3 f4, hu⟩
  · have hout : ∀ A f C, L = A ++ f :: C → k = (A.length : Int) → ¬ (0 ≤ i ∧ i < f.ls.length + f.ops.length) := fun A f C e1 e2 e3 => hin ⟨A, f, C, e1, e2, e3⟩
    refine ⟨(slotp_out k i h hout).mono ?_⟩
    rintro e w1 ⟨rfl, hx⟩
    refine ⟨_, _, rfl, ?_⟩
    simp only [eq_self, true_and, and_true, decide_eq_true_eq, decide_eq_false_iff_not, gd_st, gd_sf, exists_eq_left', exists_eq_left, Option.some.injEq, Sl.eta, Nat.reduceLeDiff, Int.reduceLE, Int.reduceLT, Int.reduceEq, Int.reduceNe, Nat.reduceMul, Nat.reduceAdd, Nat.reduceSub, Int.toNat_natCast, beq_iff_eq, bne_iff_ne, beq_eq_false_iff_ne, bne_eq_false_iff_eq, pick_and, pick_or, Bool.and_eq_true, Bool.or_eq_true, Bool.and_eq_false_iff, Bool.or_eq_false_iff, ne_eq, not_false_eq_true, Bool.not_eq_true', Bool.not_eq_false', reduceCtorEq, Nat.le_refl, Nat.zero_mul, Nat.mul_one, Nat.zero_add, Int.reduceToNat, ones, one, add_mk, Decidable.not_not, cond_true, cond_false, true_implies, false_implies, implies_true, Bool.not_true, Bool.not_false]
    have hu : Upd F w w1 := hx.mono fun _ _ _ => not_false
    rcases split_at L k with hk | ⟨A, f, C, rfl, rfl⟩
    · rw [onAt_out _ _ _ _ hk]; exact ⟨rfl, .intro (h.ext hx) f1 f2 f3 f4, hu⟩
    · rw [onAt_in, setSlotF, if_neg (hout A f C rfl rfl)]; exact ⟨rfl, .intro (h.ext hx) f1 f2 f3 f4, hu⟩

theorem new_spec (n : Int) (w : World) : Calls Try.prog 7 #[.int .i64 n] w fun e w' =>
    Ext w w' ∧ ((0 ≤ n ∧ n ≤ 65536 ∧ ∃ g F, e = .returned (.tuple #[.pointer (some ⟨g, 0, none⟩), .int .i64 0]) ∧ Stk w' g F n.toNat [] ∧ ∀ k, F k → w.heap.size ≤ k) ∨
      ((n < 0 ∨ 65536 < n) ∧ e = .returned (.tuple #[.pointer none, .int .i64 1]))) := by
  refine vc_7 _ _ _ ?_
  simp only [eq_self, true_and, and_true, decide_eq_true_eq, decide_eq_false_iff_not, gd_st, gd_sf, exists_eq_left', exists_eq_left, Option.some.injEq, Sl.eta, Nat.reduceLeDiff, Int.reduceLE, Int.reduceLT, Int.reduceEq, Int.reduceNe, Nat.reduceMul, Nat.reduceAdd, Nat.reduceSub, Int.toNat_natCast, beq_iff_eq, bne_iff_ne, beq_eq_false_iff_ne, bne_eq_false_iff_eq, pick_and, pick_or, Bool.and_eq_true, Bool.or_eq_true, Bool.and_eq_false_iff, Bool.or_eq_false_iff, ne_eq, not_false_eq_true, Bool.not_eq_true', Bool.not_eq_false', reduceCtorEq, Nat.le_refl, Nat.zero_mul, Nat.mul_one, Nat.zero_add, Int.reduceToNat, ones, one, add_mk, Decidable.not_not, cond_true, cond_false, true_implies, false_implies, implies_true, Bool.not_true, Bool.not_false]
  refine ⟨fun h0 => ⟨fun h1 => ⟨Ext.refl _, .inr (.inr h1)⟩, fun h1 => ⟨⟨by omega, by omega, by omega, by omega⟩, fun w1 n1 w2 n2 => ⟨n1.ext.trans n2.ext, .inl ⟨by omega, by omega, w1.heap.size, fun k => k = w1.heap.size ∨ k = w.heap.size, rfl, ?_, ?_⟩⟩⟩⟩, fun h0 => ⟨Ext.refl _, .inr (.inl h0)⟩⟩
  · have hsz := n1.size
    refine ⟨w.heap.size, ⟨none, 0, 0⟩, List.replicate n.toNat 0, ⟨Blk.new n2, ?_, by simp, Own.nil .., trivial, by simp [used], by omega, by omega, fun p hp => (by cases hp)⟩, .inl rfl, .inr rfl, fun p hp => (by cases hp), fun k hk => ?_⟩
    · have := (Blk.new n1).ext n2.ext
      rw [zrow_one] at this
      have e : uv (List.replicate n.toNat 0) = List.replicate n.toNat (.int .u64 0) := by simp [uv]
      rw [e]; exact this
    · rcases hk with h | h
      · exact .inl h
      · exact .inr (.inl h)
  · intro k hk
    have hsz := n1.size
    omega
end
end Go.Proofs.Ytodbmiflnellcaa.V
