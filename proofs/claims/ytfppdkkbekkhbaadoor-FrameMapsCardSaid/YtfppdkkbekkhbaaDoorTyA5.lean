/-
  What a table tells.
-/
import Derived.Test.YtfppdkkbekkhbaaDoorTyA4
import Derived.Test.YtfppdkkbekkhbaaDoorVcF
namespace Go.Proofs.YtfppdkkbekkhbaaDoor.V.T
open Go Go.RowKit
set_option linter.unusedVariables false
set_option linter.unusedSimpArgs false

theorem all_at {L : List Ty} (h : Right L) {n : Int} (h0 : 0 ≤ n) {x : Ty} (hx : (allT L)[n.toNat]? = some x) :
    n < L.length + 2 ∧ kindT L n = x.kind ∧ partsT L n = x.parts ∧ ofT L n = if x.kind ≤ 2 then -1 else x.of := by
  have hi := (List.getElem?_eq_some_iff.1 hx).1
  have hl := allT_len L
  have hk : kindT L n = x.kind := by
    rw [kindT_all h, if_pos (by omega), List.getD_eq_getElem?_getD, hx]; rfl
  refine ⟨by omega, hk, ?_⟩
  by_cases h2 : n < 2
  · have : x.kind ≤ 1 ∧ x.parts = [] := by
      rcases (show n = 0 ∨ n = 1 by omega) with rfl | rfl
      · simp [allT] at hx; subst hx; decide
      · simp [allT] at hx; subst hx; decide
    unfold partsT ofT
    rw [hk, if_neg (by omega), if_neg (by omega), if_pos (by omega)]
    exact ⟨this.2.symm, rfl⟩
  · have hg : L[(n - 2).toNat]? = some x := by
      obtain ⟨k, rfl⟩ : ∃ k : Nat, n = k + 2 := ⟨(n - 2).toNat, by omega⟩
      rw [show ((k : Int) + 2).toNat = k + 2 by omega] at hx
      rw [show ((k : Int) + 2 - 2).toNat = k by omega]
      simpa [allT] using hx
    have ok := h.ok x (List.mem_of_getElem? hg)
    have k := ok.kind
    unfold partsT ofT
    rw [hk, hg]
    refine ⟨?_, ?_⟩
    · split
      · rfl
      · rw [ok.none_ (by omega)]
    · by_cases h2 : x.kind ≤ 2
      · rw [if_neg (by omega), if_pos h2]
      · rw [if_pos (by omega), if_neg h2]
theorem not_at {L : List Ty} {n : Int} (h : ¬ (0 ≤ n ∧ n < L.length + 2)) (hr : Right L) : kindT L n = -1 ∧ partsT L n = [] ∧ ofT L n = -1 := by
  have hk : kindT L n = -1 := by rw [kindT_all hr, if_neg h]
  unfold partsT ofT
  rw [hk]
  exact ⟨rfl, rfl, rfl⟩
section
variable {w : World} {B g : Nat} {L : List Ty}
/-- one type of a table -/
theorem Table.at_ (h : Table w B g L) : ∃ (T : List Tp) (sa sl : Sl) (c : List Nat), Tbl w B g T sa sl c ∧ sa.n = L.length + 2 ∧ sl.n = L.length + 2 ∧ Right L ∧
    ∀ n : Int, 0 ≤ n → n < L.length + 2 → ∃ (t : Tp) (p : Addr) (pl : Addr), T[n.toNat]? = some t ∧ (allT L)[n.toNat]? = some t.1 ∧ sa.a = some p ∧ (∀ (j : Nat) (v : Value), (tyRow t)[j]? = some v → w.cell? ((p.add (n.toNat * 3)).add j) = some v) ∧
      sl.a = some pl ∧ w.cell? (pl.add n.toNat) = some (.int .i64 (cl c n.toNat : Nat)) := by
  obtain ⟨T, sa, sl, c, h, ha, hr, hc, hn⟩ := h
  have hl : T.length = L.length + 2 := by
    have := congrArg List.length ha
    simpa [allT] using this
  have hcl : c.length = L.length + 2 := hc.len
  have h1 := h.len
  have h2 := h.likeLen
  refine ⟨T, sa, sl, c, h, by omega, by omega, hr, fun n n0 n1 => ?_⟩
  obtain ⟨t, ht, _, hm⟩ := getM (T := T) (i := n.toNat) (by omega)
  obtain ⟨p, hp, hx⟩ := h.ty.tys.cell ht
  obtain ⟨pl, hpl, hx'⟩ := h.like.rd.natAt (i := n.toNat) (by omega)
  exact ⟨t, p, pl, ht, by rw [← ha]; exact hm, hp, hx, hpl, hx'⟩
theorem has_spec (h : Table w B g L) (n : Int) : Calls Tryd.prog 77 #[.pointer (some ⟨g, 0, none⟩), .int .i64 n] w fun e w' =>
    e = .returned (.bool (decide (0 ≤ n ∧ n < L.length + 2))) ∧ w' = w := by
  obtain ⟨T, sa, sl, c, h, l1, l2, hr, hat⟩ := h.at_
  refine vc_77 _ _ _ _ ?_
  have hd := h.hd
  simp only [eq_self, false_or, or_false, true_and, and_true, decide_eq_true_eq, decide_eq_false_iff_not, gd_st, gd_sf, exists_eq_left', exists_eq_left, Option.some.injEq, Sl.eta, Nat.reduceLeDiff, Int.reduceLE, Int.reduceLT, Int.reduceEq, Int.reduceNe, Nat.reduceMul, Nat.reduceAdd, Nat.reduceSub, Int.toNat_natCast, beq_iff_eq, bne_iff_ne, beq_eq_false_iff_ne, bne_eq_false_iff_eq, pick_and, pick_or, Bool.and_eq_true, Bool.or_eq_true, Bool.and_eq_false_iff, Bool.or_eq_false_iff, ne_eq, not_false_eq_true, Bool.not_eq_true', Bool.not_eq_false', reduceCtorEq, Nat.le_refl, Nat.zero_mul, Nat.mul_one, Nat.zero_add, Int.reduceToNat, ones, one, add_mk, Decidable.not_not, cond_true, cond_false, true_implies, false_implies, implies_true, Bool.not_true, Bool.not_false]
  simp only [hd.cell, List.getElem?_cons_zero, List.getElem?_cons_succ, ex_sl, Value.int.injEq, Value.bool.injEq, Value.pointer.injEq, Value.string.injEq, eq_self, false_or, or_false, true_and, and_true, decide_eq_true_eq, decide_eq_false_iff_not, gd_st, gd_sf, exists_eq_left', exists_eq_left, Option.some.injEq, Sl.eta, Nat.reduceLeDiff, Int.reduceLE, Int.reduceLT, Int.reduceEq, Int.reduceNe, Nat.reduceMul, Nat.reduceAdd, Nat.reduceSub, Int.toNat_natCast, beq_iff_eq, bne_iff_ne, beq_eq_false_iff_ne, bne_eq_false_iff_eq, pick_and, pick_or, Bool.and_eq_true, Bool.or_eq_true, Bool.and_eq_false_iff, Bool.or_eq_false_iff, ne_eq, not_false_eq_true, Bool.not_eq_true', Bool.not_eq_false', reduceCtorEq, Nat.le_refl, Nat.zero_mul, Nat.mul_one, Nat.zero_add, Int.reduceToNat, ones, one, add_mk, Decidable.not_not, cond_true, cond_false, true_implies, false_implies, implies_true, Bool.not_true, Bool.not_false]
  exact ⟨fun h0 => rb (by rw [l1]; simp [h0]), fun h0 => rb (by simp [h0])⟩
theorem kind_spec (h : Table w B g L) (n : Int) : Calls Tryd.prog 73 #[.pointer (some ⟨g, 0, none⟩), .int .i64 n] w fun e w' => e = .returned (.int .i64 (kindT L n)) ∧ w' = w := by
  refine vc_73 _ _ _ _ ?_
  simp only [eq_self, false_or, or_false, true_and, and_true, decide_eq_true_eq, decide_eq_false_iff_not, gd_st, gd_sf, exists_eq_left', exists_eq_left, Option.some.injEq, Sl.eta, Nat.reduceLeDiff, Int.reduceLE, Int.reduceLT, Int.reduceEq, Int.reduceNe, Nat.reduceMul, Nat.reduceAdd, Nat.reduceSub, Int.toNat_natCast, beq_iff_eq, bne_iff_ne, beq_eq_false_iff_ne, bne_eq_false_iff_eq, pick_and, pick_or, Bool.and_eq_true, Bool.or_eq_true, Bool.and_eq_false_iff, Bool.or_eq_false_iff, ne_eq, not_false_eq_true, Bool.not_eq_true', Bool.not_eq_false', reduceCtorEq, Nat.le_refl, Nat.zero_mul, Nat.mul_one, Nat.zero_add, Int.reduceToNat, ones, one, add_mk, Decidable.not_not, cond_true, cond_false, true_implies, false_implies, implies_true, Bool.not_true, Bool.not_false]
  refine ⟨(has_spec h n).mono ?_⟩
  rintro e w' ⟨rfl, rfl⟩
  obtain ⟨T, sa, sl, c, h, l1, l2, hr, hat⟩ := h.at_
  have hd := h.hd
  refine ⟨_, rfl, fun hb => ⟨ri (not_at (of_decide_eq_false hb) hr).1.symm, rfl⟩, fun hb => ?_⟩
  have hb := of_decide_eq_true hb
  obtain ⟨t, p, pl, ht, hx, hp, hc, _, _⟩ := hat n hb.1 hb.2
  have c0 := hc 0 _ rfl
  simp only [hd.cell, List.getElem?_cons_zero, List.getElem?_cons_succ, ex_sl, Value.int.injEq, Value.bool.injEq, Value.pointer.injEq, Value.string.injEq, eq_self, false_or, or_false, true_and, and_true, decide_eq_true_eq, decide_eq_false_iff_not, gd_st, gd_sf, exists_eq_left', exists_eq_left, Option.some.injEq, Sl.eta, Nat.reduceLeDiff, Int.reduceLE, Int.reduceLT, Int.reduceEq, Int.reduceNe, Nat.reduceMul, Nat.reduceAdd, Nat.reduceSub, Int.toNat_natCast, beq_iff_eq, bne_iff_ne, beq_eq_false_iff_ne, bne_eq_false_iff_eq, pick_and, pick_or, Bool.and_eq_true, Bool.or_eq_true, Bool.and_eq_false_iff, Bool.or_eq_false_iff, ne_eq, not_false_eq_true, Bool.not_eq_true', Bool.not_eq_false', reduceCtorEq, Nat.le_refl, Nat.zero_mul, Nat.mul_one, Nat.zero_add, Int.reduceToNat, ones, one, add_mk, Decidable.not_not, cond_true, cond_false, true_implies, false_implies, implies_true, Bool.not_true, Bool.not_false]
  (repeat' (first | refine ⟨_, by assumption, ?_⟩ | refine ⟨by omega, ?_⟩ | refine ⟨by assumption, ?_⟩ | fail))
  exact ri (all_at hr hb.1 hx).2.1.symm
theorem ref_spec (h : Table w B g L) (n : Int) : Calls Tryd.prog 63 #[.pointer (some ⟨g, 0, none⟩), .int .i64 n] w fun e w' => e = .returned (.bool (refT L n)) ∧ w' = w := by
  refine vc_63 _ _ _ _ ?_
  simp only [eq_self, false_or, or_false, true_and, and_true, decide_eq_true_eq, decide_eq_false_iff_not, gd_st, gd_sf, exists_eq_left', exists_eq_left, Option.some.injEq, Sl.eta, Nat.reduceLeDiff, Int.reduceLE, Int.reduceLT, Int.reduceEq, Int.reduceNe, Nat.reduceMul, Nat.reduceAdd, Nat.reduceSub, Int.toNat_natCast, beq_iff_eq, bne_iff_ne, beq_eq_false_iff_ne, bne_eq_false_iff_eq, pick_and, pick_or, Bool.and_eq_true, Bool.or_eq_true, Bool.and_eq_false_iff, Bool.or_eq_false_iff, ne_eq, not_false_eq_true, Bool.not_eq_true', Bool.not_eq_false', reduceCtorEq, Nat.le_refl, Nat.zero_mul, Nat.mul_one, Nat.zero_add, Int.reduceToNat, ones, one, add_mk, Decidable.not_not, cond_true, cond_false, true_implies, false_implies, implies_true, Bool.not_true, Bool.not_false]
  refine ⟨(kind_spec h n).mono ?_⟩
  rintro e w' ⟨rfl, rfl⟩
  exact ⟨_, rfl, rfl, rfl⟩
end
end Go.Proofs.YtfppdkkbekkhbaaDoor.V.T
