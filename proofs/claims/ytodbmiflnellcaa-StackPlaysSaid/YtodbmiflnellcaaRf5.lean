/-
  The document's stack: Slot, SetSlot.
-/
import Derived.Test.YtodbmiflnellcaaRf4
namespace Go.Proofs.Ytodbmiflnellcaa.V
open Go Go.RowKit
set_option linter.unusedVariables false
set_option linter.unusedSimpArgs false

section
variable {w w' w1 : World} {g words : Nat} {fs : Sl} {Q A C : List Tr} {t t' : Tr} {S G : Nat → Prop} {L : List Fr}
theorem rslot_spec (k i : Int) (h : Ref w g G words L) : Calls Try.prog 37 #[.pointer (some ⟨g, 0, none⟩), .int .i64 k, .int .i64 i] w fun e w' =>
    e = .returned (.tuple #[.int .u64 ((onAt L k (0, 20) (slotF i)).1.1 : Nat), .int .i64 (onAt L k (0, 20) (slotF i)).1.2]) ∧ Ext w w' := by
  obtain ⟨fs, Q, h, rfl⟩ := h
  refine vc_37 _ _ _ _ _ ?_
  have hb := h.at_.hd
  have hl := h.at_.len
  simp only [eq_self, true_and, and_true, decide_eq_true_eq, decide_eq_false_iff_not, gd_st, gd_sf, exists_eq_left', exists_eq_left, Option.some.injEq, Sl.eta, Nat.reduceLeDiff, Int.reduceLE, Int.reduceLT, Int.reduceEq, Int.reduceNe, Nat.reduceMul, Nat.reduceAdd, Nat.reduceSub, Int.toNat_natCast, beq_iff_eq, bne_iff_ne, beq_eq_false_iff_ne, bne_eq_false_iff_eq, pick_and, pick_or, Bool.and_eq_true, Bool.or_eq_true, Bool.and_eq_false_iff, Bool.or_eq_false_iff, ne_eq, not_false_eq_true, Bool.not_eq_true', Bool.not_eq_false', reduceCtorEq, Nat.le_refl, Nat.zero_mul, Nat.mul_one, Nat.zero_add, Int.reduceToNat, ones, one, add_mk, Decidable.not_not, cond_true, cond_false, true_implies, false_implies, implies_true, Bool.not_true, Bool.not_false]
  simp only [hb.cell, List.getElem?_cons_zero, List.getElem?_cons_succ, ex_sl, Value.int.injEq, Value.bool.injEq, Value.pointer.injEq, Value.string.injEq, eq_self, true_and, and_true, decide_eq_true_eq, decide_eq_false_iff_not, gd_st, gd_sf, exists_eq_left', exists_eq_left, Option.some.injEq, Sl.eta, Nat.reduceLeDiff, Int.reduceLE, Int.reduceLT, Int.reduceEq, Int.reduceNe, Nat.reduceMul, Nat.reduceAdd, Nat.reduceSub, Int.toNat_natCast, beq_iff_eq, bne_iff_ne, beq_eq_false_iff_ne, bne_eq_false_iff_eq, pick_and, pick_or, Bool.and_eq_true, Bool.or_eq_true, Bool.and_eq_false_iff, Bool.or_eq_false_iff, ne_eq, not_false_eq_true, Bool.not_eq_true', Bool.not_eq_false', reduceCtorEq, Nat.le_refl, Nat.zero_mul, Nat.mul_one, Nat.zero_add, Int.reduceToNat, ones, one, add_mk, Decidable.not_not, cond_true, cond_false, true_implies, false_implies, implies_true, Bool.not_true, Bool.not_false]
  have out : (k < 0 ∨ (Q.length : Int) ≤ k) → ∀ w', Ext w w' → Ending.returned (.tuple #[.int .u64 0, .int .i64 20]) = .returned (.tuple #[.int .u64 ((onAt (Q.map (·.1)) k (0, 20) (slotF i)).1.1 : Nat), .int .i64 (onAt (Q.map (·.1)) k (0, 20) (slotF i)).1.2]) ∧ Ext w w' := fun hk w' x => by
    rw [onAt_out _ _ _ _ (by rw [List.length_map]; exact hk)]; exact ⟨rfl, x⟩
  refine ⟨fun k0 => ⟨fun k1 => ?_, fun k1 => out (.inr (by omega)) _ (Ext.refl _)⟩, fun k0 => out (.inl k0) _ (Ext.refl _)⟩
  obtain ⟨A, t, C, rfl, rfl⟩ : ∃ A t C, Q = A ++ t :: C ∧ k = (A.length : Int) := by
    rcases qsplit Q k with hk | hk
    · omega
    · exact hk
  have hat := h.at_
  obtain ⟨r, hr, hc⟩ := hat.base
  have hls := hat.ls t (by simp)
  have hops := hat.ops t (by simp)
  have hok := hat.ok t (by simp)
  have a1 := hok.ls
  have a2 := hok.hi
  have a3 := hok.ops
  have n1 := hls.rd.lenu
  have n2 := hops.rd.lenu
  have e0 : (List.map (fun x => x.1) (A ++ t :: C)) = A.map (·.1) ++ t.1 :: C.map (·.1) := by simp
  have e1 : ((A.length : Nat) : Int) = (((A.map (·.1)).length : Nat) : Int) := by simp
  have eon : onAt (List.map (fun x => x.1) (A ++ t :: C)) (A.length : Nat) ((0, 20) : Nat × Int) (slotF i) = ((slotF i t.1).1, A.map (·.1) ++ (slotF i t.1).2 :: C.map (·.1)) := by
    rw [e0, e1, onAt_in]
  rw [eon]
  refine ⟨fun i0 => ?_, fun i0 => ⟨by omega, by omega, _, hr, (t.1.fn : Nat), (t.1.at_ : Nat), t.2.1, (t.1.hi : Nat), t.2.2, rfl, ⟨?_, ?_, ?_, ?_, ?_⟩, fun w1 m1 => ⟨rfl, (Blk.new m1).canSetN 0 5 (by simp), fun w2 hs => ?_⟩⟩⟩
  · rw [slotF, if_neg (by omega)]
    exact ⟨rfl, Ext.refl _⟩
  · rw [add_mk, add_mk, Int.toNat_natCast, Nat.zero_add]; exact hc 0 _ rfl
  · rw [add_mk, add_mk, Int.toNat_natCast, Nat.zero_add]; exact hc 1 _ rfl
  · rw [add_mk, add_mk, Int.toNat_natCast, Nat.zero_add]; exact hc 2 _ rfl
  · rw [add_mk, add_mk, Int.toNat_natCast, Nat.zero_add]; exact hc 3 _ rfl
  · rw [add_mk, add_mk, Int.toNat_natCast, Nat.zero_add]; exact hc 4 _ rfl
  have hb2 := hs.blk (Blk.new m1)
  simp only [setsL, List.set_cons_zero, List.set_cons_succ] at hb2
  have x2 : Ext w w2 := m1.ext.fresh hs.upd (by rintro i rfl; exact Nat.le_refl _)
  simp only [hb2.cell, List.getElem?_cons_zero, List.getElem?_cons_succ, ex_sl, Value.int.injEq, Value.bool.injEq, Value.pointer.injEq, Value.string.injEq, eq_self, true_and, and_true, decide_eq_true_eq, decide_eq_false_iff_not, gd_st, gd_sf, exists_eq_left', exists_eq_left, Option.some.injEq, Sl.eta, Nat.reduceLeDiff, Int.reduceLE, Int.reduceLT, Int.reduceEq, Int.reduceNe, Nat.reduceMul, Nat.reduceAdd, Nat.reduceSub, Int.toNat_natCast, beq_iff_eq, bne_iff_ne, beq_eq_false_iff_ne, bne_eq_false_iff_eq, pick_and, pick_or, Bool.and_eq_true, Bool.or_eq_true, Bool.and_eq_false_iff, Bool.or_eq_false_iff, ne_eq, not_false_eq_true, Bool.not_eq_true', Bool.not_eq_false', reduceCtorEq, Nat.le_refl, Nat.zero_mul, Nat.mul_one, Nat.zero_add, Int.reduceToNat, ones, one, add_mk, Decidable.not_not, cond_true, cond_false, true_implies, false_implies, implies_true, Bool.not_true, Bool.not_false]
  refine ⟨fun hi => ?_, fun hi => ?_⟩
  · obtain ⟨p, y, hp, hy, hcy⟩ := (hls.ext x2).rd.word i.toNat (by omega)
    rw [Nat.mul_one] at hcy
    refine ⟨by omega, by omega, p, hp, y, hcy, ?_, x2⟩
    rw [slotF, if_pos (by omega)]
    simp only [List.getD_eq_getElem?_getD]
    rw [List.getElem?_append_left (by omega), hy]
    rfl
  · rw [wrap_i64 (n := (t.2.1.n : Int) + _) (by omega) (by omega)]
    refine ⟨fun hi2 => ?_, fun hi2 => ?_⟩
    · rw [wrap_i64 (by omega) (by omega)]
      obtain ⟨p, y, hp, hy, hcy⟩ := (hops.ext x2).rd.word (i.toNat - t.1.ls.length) (by omega)
      rw [Nat.mul_one] at hcy
      refine ⟨by omega, by omega, p, hp, y, by rw [show (i - (t.2.1.n : Int)).toNat = i.toNat - t.1.ls.length by omega]; exact hcy, ?_, x2⟩
      rw [slotF, if_pos (by omega)]
      simp only [List.getD_eq_getElem?_getD]
      rw [List.getElem?_append_right (by omega), hy]
      rfl
    · rw [slotF, if_neg (by omega)]
      exact ⟨rfl, x2⟩
theorem sls_mid {A C : List Tr} {t t' : Tr} (h : t'.2 = t.2) : sls (A ++ t' :: C) = sls (A ++ t :: C) := by
  rw [sls_append, sls_append, sls, sls, h]
theorem rsetSlot_spec (k i : Int) (x : Nat) (h : Ref w g G words L) : Calls Try.prog 38 #[.pointer (some ⟨g, 0, none⟩), .int .i64 k, .int .i64 i, .int .u64 (x : Nat)] w fun e w' =>
    e = .returned (.int .i64 (onAt L k 20 (setSlotF i x)).1) ∧ Left w w' g G words (onAt L k 20 (setSlotF i x)).2 := by
  have h0 := h
  obtain ⟨fs, Q, h, rfl⟩ := h
  refine vc_38 _ _ _ _ _ _ ?_
  simp only [eq_self, true_and, and_true, decide_eq_true_eq, decide_eq_false_iff_not, gd_st, gd_sf, exists_eq_left', exists_eq_left, Option.some.injEq, Sl.eta, Nat.reduceLeDiff, Int.reduceLE, Int.reduceLT, Int.reduceEq, Int.reduceNe, Nat.reduceMul, Nat.reduceAdd, Nat.reduceSub, Int.toNat_natCast, beq_iff_eq, bne_iff_ne, beq_eq_false_iff_ne, bne_eq_false_iff_eq, pick_and, pick_or, Bool.and_eq_true, Bool.or_eq_true, Bool.and_eq_false_iff, Bool.or_eq_false_iff, ne_eq, not_false_eq_true, Bool.not_eq_true', Bool.not_eq_false', reduceCtorEq, Nat.le_refl, Nat.zero_mul, Nat.mul_one, Nat.zero_add, Int.reduceToNat, ones, one, add_mk, Decidable.not_not, cond_true, cond_false, true_implies, false_implies, implies_true, Bool.not_true, Bool.not_false]
  refine ⟨(rslot_spec k i h0).mono ?_⟩
  rintro e w1 ⟨rfl, x1⟩
  have st := h0.stay x1
  rcases qsplit Q k with hk | ⟨A, t, C, rfl, rfl⟩
  · have hk' : k < 0 ∨ ((Q.map (·.1)).length : Int) ≤ k := by rw [List.length_map]; exact hk
    rw [onAt_out _ _ _ _ hk', onAt_out _ _ _ _ hk']
    exact ⟨_, _, rfl, fun _ => ⟨rfl, st⟩, fun hh => (by simp at hh)⟩
  have e0 : (List.map (fun x => x.1) (A ++ t :: C)) = A.map (·.1) ++ t.1 :: C.map (·.1) := by simp
  have e1 : ((A.length : Nat) : Int) = (((A.map (·.1)).length : Nat) : Int) := by simp
  have eon : onAt (List.map (fun x => x.1) (A ++ t :: C)) (A.length : Nat) ((0, 20) : Nat × Int) (slotF i) = ((slotF i t.1).1, A.map (·.1) ++ (slotF i t.1).2 :: C.map (·.1)) := by
    rw [e0, e1, onAt_in]
  have eos : onAt (List.map (fun x => x.1) (A ++ t :: C)) (A.length : Nat) (20 : Int) (setSlotF i x) = ((setSlotF i x t.1).1, A.map (·.1) ++ (setSlotF i x t.1).2 :: C.map (·.1)) := by
    rw [e0, e1, onAt_in]
  rw [eon, eos]
  have h1 := (h.ext x1).at_
  have hb := h1.hd
  have hl := h1.len
  rw [List.length_append, List.length_cons] at hl
  obtain ⟨r, hr, hc⟩ := h1.base
  have hls := h1.ls t (by simp)
  have hops := h1.ops t (by simp)
  have hok := h1.ok t (by simp)
  have a1 := hok.ls
  have a2 := hok.hi
  have a3 := hok.ops
  have n1 := hls.rd.lenu
  have n2 := hops.rd.lenu
  rw [e0] at st
  by_cases hin : 0 ≤ i ∧ i < t.1.ls.length + t.1.ops.length
  rotate_left
  · rw [slotF, if_neg hin, setSlotF, if_neg hin]
    exact ⟨_, _, rfl, fun _ => ⟨rfl, st⟩, fun hh => (by simp at hh)⟩
  rw [slotF, if_pos hin, setSlotF, if_pos hin]
  have c2 : w1.cell? (Addr.add (Addr.add ⟨r, 0, none⟩ (((A.length : Nat) : Int).toNat * 5)) 2) = some (.slice t.2.1.a t.2.1.n t.2.1.c) := by
    rw [add_mk, add_mk, Int.toNat_natCast, Nat.zero_add]; exact hc 2 _ rfl
  have c4 : w1.cell? (Addr.add (Addr.add ⟨r, 0, none⟩ (((A.length : Nat) : Int).toNat * 5)) 4) = some (.slice t.2.2.a t.2.2.n t.2.2.c) := by
    rw [add_mk, add_mk, Int.toNat_natCast, Nat.zero_add]; exact hc 4 _ rfl
  refine ⟨_, _, rfl, fun hh => absurd rfl hh, fun _ => ?_⟩
  simp only [hb.cell, List.getElem?_cons_zero, List.getElem?_cons_succ, ex_sl, Value.int.injEq, Value.bool.injEq, Value.pointer.injEq, Value.string.injEq, eq_self, true_and, and_true, decide_eq_true_eq, decide_eq_false_iff_not, gd_st, gd_sf, exists_eq_left', exists_eq_left, Option.some.injEq, Sl.eta, Nat.reduceLeDiff, Int.reduceLE, Int.reduceLT, Int.reduceEq, Int.reduceNe, Nat.reduceMul, Nat.reduceAdd, Nat.reduceSub, Int.toNat_natCast, beq_iff_eq, bne_iff_ne, beq_eq_false_iff_ne, bne_eq_false_iff_eq, pick_and, pick_or, Bool.and_eq_true, Bool.or_eq_true, Bool.and_eq_false_iff, Bool.or_eq_false_iff, ne_eq, not_false_eq_true, Bool.not_eq_true', Bool.not_eq_false', reduceCtorEq, Nat.le_refl, Nat.zero_mul, Nat.mul_one, Nat.zero_add, Int.reduceToNat, ones, one, add_mk, Decidable.not_not, cond_true, cond_false, true_implies, false_implies, implies_true, Bool.not_true, Bool.not_false]
  refine ⟨by omega, by omega, _, hr, t.2.1, c2, fun hi => ?_, fun hi => ?_⟩
  · rw [if_pos (by omega)]
    obtain ⟨p, y, hp, _, _⟩ := hls.rd.word i.toNat (by omega)
    refine ⟨by omega, by omega, _, hr, t.2.1, c2, by omega, by omega, p, hp, hls.canAt hp (by omega), fun w2 hs => ⟨rfl, ?_⟩⟩
    have hF := h1.setLs hp (i := i.toNat) (by omega) hs
    exact h.left (x1.upd (hF.2.mono fun k _ hk e => hk (e ▸ h.g3 _ (sls_mem (by simp)).1 p hp))) hF.1 (fun p hp => .inl (h.g2 p hp)) (fun s hs p hp => .inl (h.g3 s (by simpa [sls_append, sls] using hs) p hp)) (by simp)
  · rw [if_neg (by omega)]
    rw [wrap_i64 (by omega) (by omega), show (i - (t.2.1.n : Int)).toNat = i.toNat - t.1.ls.length by omega]
    obtain ⟨p, y, hp, _, _⟩ := hops.rd.word (i.toNat - t.1.ls.length) (by omega)
    refine ⟨by omega, by omega, _, hr, t.2.2, c4, by omega, by omega, p, hp, hops.canAt hp (by omega), fun w2 hs => ⟨rfl, ?_⟩⟩
    have hF := h1.setOps hp (i := i.toNat - t.1.ls.length) (by omega) hs
    exact h.left (x1.upd (hF.2.mono fun k _ hk e => hk (e ▸ h.g3 _ (sls_mem (by simp)).2 p hp))) hF.1 (fun p hp => .inl (h.g2 p hp)) (fun s hs p hp => .inl (h.g3 s (by simpa [sls_append, sls] using hs) p hp)) (by simp)
end
end Go.Proofs.Ytodbmiflnellcaa.V
