/-
  The document's answer for types, but Alike.
-/
import Derived.Test.YtfppdkkbekkhbaaDoorTyA5
namespace Go.Proofs.YtfppdkkbekkhbaaDoor.V.T
open Go Go.RowKit
set_option linter.unusedVariables false
set_option linter.unusedSimpArgs false
set_option maxRecDepth 100000

section
variable {w : World} {l : Sl} {T : List Tp}
theorem rthere_spec (l : Sl) (n : Int) (w : World) (hm : l.n ≤ 1000000000000000) :
    Calls Tryd.prog 61 #[.slice l.a l.n l.c, .int .i64 n] w fun e w' => e = .returned (.bool (decide (There l.n n))) ∧ w' = w := by
  refine vc_61 l n _ _ ?_
  simp only [eq_self, false_or, or_false, true_and, and_true, decide_eq_true_eq, decide_eq_false_iff_not, gd_st, gd_sf, exists_eq_left', exists_eq_left, Option.some.injEq, Sl.eta, Nat.reduceLeDiff, Int.reduceLE, Int.reduceLT, Int.reduceEq, Int.reduceNe, Nat.reduceMul, Nat.reduceAdd, Nat.reduceSub, Int.toNat_natCast, beq_iff_eq, bne_iff_ne, beq_eq_false_iff_ne, bne_eq_false_iff_eq, pick_and, pick_or, Bool.and_eq_true, Bool.or_eq_true, Bool.and_eq_false_iff, Bool.or_eq_false_iff, ne_eq, not_false_eq_true, Bool.not_eq_true', Bool.not_eq_false', reduceCtorEq, Nat.le_refl, Nat.zero_mul, Nat.mul_one, Nat.zero_add, Int.reduceToNat, ones, one, add_mk, Decidable.not_not, cond_true, cond_false, true_implies, false_implies, implies_true, Bool.not_true, Bool.not_false]
  rw [wrap_i64 (by omega) (by omega)]
  exact ⟨fun h => rb (by simp [There, h]), fun h => rb (by simp [There, h])⟩
theorem rkind_spec (h : Tys w l T) (hm : T.length ≤ 1000000000000000) (n : Int) (hn : n ≤ 9223372036854775807) :
    Calls Tryd.prog 72 #[.slice l.a l.n l.c, .int .i64 n] w fun e w' => e = .returned (.int .i64 (kindT (T.map (·.1)) n)) ∧ w' = w := by
  refine vc_72 _ _ _ _ ?_
  have hl := h.len
  have hL : (T.map (·.1)).length = T.length := List.length_map ..
  simp only [eq_self, false_or, or_false, true_and, and_true, decide_eq_true_eq, decide_eq_false_iff_not, gd_st, gd_sf, exists_eq_left', exists_eq_left, Option.some.injEq, Sl.eta, Nat.reduceLeDiff, Int.reduceLE, Int.reduceLT, Int.reduceEq, Int.reduceNe, Nat.reduceMul, Nat.reduceAdd, Nat.reduceSub, Int.toNat_natCast, beq_iff_eq, bne_iff_ne, beq_eq_false_iff_ne, bne_eq_false_iff_eq, pick_and, pick_or, Bool.and_eq_true, Bool.or_eq_true, Bool.and_eq_false_iff, Bool.or_eq_false_iff, ne_eq, not_false_eq_true, Bool.not_eq_true', Bool.not_eq_false', reduceCtorEq, Nat.le_refl, Nat.zero_mul, Nat.mul_one, Nat.zero_add, Int.reduceToNat, ones, one, add_mk, Decidable.not_not, cond_true, cond_false, true_implies, false_implies, implies_true, Bool.not_true, Bool.not_false]
  refine ⟨fun h0 => ⟨fun h1 => ri ?_, fun h1 => ⟨fun hge => ?_, fun hlt => ri ?_⟩⟩, fun h0 => ri ?_⟩
  · unfold kindT; rw [if_pos (.inr h1)]
  · rw [wrap_i64 (by omega) (by omega)]
    refine ⟨fun hh => ri ?_, fun hh => ?_⟩
    · rw [kindT_not (by omega) (by unfold There; omega)]
    · obtain ⟨x, hx, hk⟩ := kindT_there (L := T.map (·.1)) (n := n) (by omega) (by unfold There; omega)
      obtain ⟨t, ht, htm, hmm⟩ := getM (T := T) (i := (n - 2).toNat) (by omega)
      rw [hx] at hmm; injection hmm with hmm; subst hmm
      obtain ⟨p, hp, hc⟩ := h.cell ht
      have c0 := hc 0 _ rfl
      (repeat' (first | refine ⟨_, by assumption, ?_⟩ | refine ⟨by omega, ?_⟩ | refine ⟨by assumption, ?_⟩ | fail))
      exact ri hk.symm
  · unfold kindT; rw [if_neg (by omega), if_pos hlt]
  · unfold kindT; rw [if_pos (.inl h0)]
theorem rref_spec (h : Tys w l T) (hm : T.length ≤ 1000000000000000) (n : Int) (hn : n ≤ 9223372036854775807) :
    Calls Tryd.prog 64 #[.slice l.a l.n l.c, .int .i64 n] w fun e w' => e = .returned (.bool (refT (T.map (·.1)) n)) ∧ w' = w := by
  refine vc_64 _ _ _ _ ?_
  simp only [eq_self, false_or, or_false, true_and, and_true, decide_eq_true_eq, decide_eq_false_iff_not, gd_st, gd_sf, exists_eq_left', exists_eq_left, Option.some.injEq, Sl.eta, Nat.reduceLeDiff, Int.reduceLE, Int.reduceLT, Int.reduceEq, Int.reduceNe, Nat.reduceMul, Nat.reduceAdd, Nat.reduceSub, Int.toNat_natCast, beq_iff_eq, bne_iff_ne, beq_eq_false_iff_ne, bne_eq_false_iff_eq, pick_and, pick_or, Bool.and_eq_true, Bool.or_eq_true, Bool.and_eq_false_iff, Bool.or_eq_false_iff, ne_eq, not_false_eq_true, Bool.not_eq_true', Bool.not_eq_false', reduceCtorEq, Nat.le_refl, Nat.zero_mul, Nat.mul_one, Nat.zero_add, Int.reduceToNat, ones, one, add_mk, Decidable.not_not, cond_true, cond_false, true_implies, false_implies, implies_true, Bool.not_true, Bool.not_false]
  refine ⟨(rkind_spec h hm n hn).mono ?_⟩
  rintro e w' ⟨rfl, rfl⟩
  exact ⟨_, rfl, rfl, rfl⟩
theorem robj_spec (h : Tys w l T) (hm : T.length ≤ 1000000000000000) (n : Int) (hn : n ≤ 9223372036854775807) :
    Calls Tryd.prog 62 #[.slice l.a l.n l.c, .int .i64 n] w fun e w' => e = .returned (.bool (objT (T.map (·.1)) n)) ∧ w' = w := by
  refine vc_62 _ _ _ _ ?_
  simp only [eq_self, false_or, or_false, true_and, and_true, decide_eq_true_eq, decide_eq_false_iff_not, gd_st, gd_sf, exists_eq_left', exists_eq_left, Option.some.injEq, Sl.eta, Nat.reduceLeDiff, Int.reduceLE, Int.reduceLT, Int.reduceEq, Int.reduceNe, Nat.reduceMul, Nat.reduceAdd, Nat.reduceSub, Int.toNat_natCast, beq_iff_eq, bne_iff_ne, beq_eq_false_iff_ne, bne_eq_false_iff_eq, pick_and, pick_or, Bool.and_eq_true, Bool.or_eq_true, Bool.and_eq_false_iff, Bool.or_eq_false_iff, ne_eq, not_false_eq_true, Bool.not_eq_true', Bool.not_eq_false', reduceCtorEq, Nat.le_refl, Nat.zero_mul, Nat.mul_one, Nat.zero_add, Int.reduceToNat, ones, one, add_mk, Decidable.not_not, cond_true, cond_false, true_implies, false_implies, implies_true, Bool.not_true, Bool.not_false]
  refine ⟨(rkind_spec h hm n hn).mono ?_⟩
  rintro e w' ⟨rfl, rfl⟩
  have key : 2 ≤ kindT (T.map (·.1)) n → 1 < n := by
    intro h2
    refine Int.not_le.1 fun hle => ?_
    unfold kindT at h2
    split at h2
    · omega
    · split at h2 <;> omega
  unfold objT
  generalize kindT (T.map (·.1)) n = k at *
  refine ⟨_, rfl, fun h2 => ⟨fun h3 => ⟨rb ?_, rfl⟩, fun h3 => ⟨rb ?_, rfl⟩⟩, fun h2 => ⟨rb ?_, rfl⟩⟩
  · rw [Bool.eq_iff_iff, beq_iff_eq, decide_eq_true_eq]
    constructor
    · intro h4; exact ⟨by omega, by omega, key (by omega)⟩
    · rintro ⟨_, _, _⟩; omega
  · exact (decide_eq_true ⟨by omega, by omega, key (by omega)⟩).symm
  · exact (decide_eq_true ⟨by omega, by omega, key (by omega)⟩).symm
/-- a type of the list itself -/
theorem in_list {L : List Ty} {n : Int} (h : 2 ≤ kindT L n) : 0 ≤ n - 2 ∧ n - 2 < L.length ∧ ∃ x, L[(n - 2).toNat]? = some x ∧ kindT L n = x.kind := by
  have h1 : 1 < n := by
    refine Int.not_le.1 fun hle => ?_
    unfold kindT at h
    split at h
    · omega
    · split at h <;> omega
  have h2 : There L.length n := Classical.byContradiction fun hb => by
    have := kindT_not h1 hb; omega
  refine ⟨by omega, by unfold There at h2; omega, kindT_there h1 h2⟩
theorem objT_there {L : List Ty} {n : Int} (h : objT L n = true) : There L.length n := by
  have := of_decide_eq_true h
  have := in_list (L := L) (n := n) this.1
  unfold There; omega
theorem rwrong_spec {x : Ty} {s : Sl} (h : Tys w l T) (hs : Rd w 1 s (iv x.parts)) (hm : T.length ≤ 1000000000000000) (hp : x.parts.length ≤ 1000000000000000) (ho : x.of ≤ 9223372036854775807) :
    Calls Tryd.prog 46 #[.slice l.a l.n l.c, .agg #[.int .i64 x.kind, .slice s.a s.n s.c, .int .i64 x.of]] w fun e w' => e = .returned (.int .i64 (wrongT (T.map (·.1)) x)) ∧ Ext w w' := by
  refine vc_46 l x.kind s x.of _ _ ?_
  have hl := h.len
  have hL : (T.map (·.1)).length = T.length := List.length_map ..
  have hsl := hs.leni
  have hobj := fun (w' : World) (u : Ext w w') => robj_spec (h.ext u) hm x.of ho
  generalize T.map (·.1) = L at *
  simp only [eq_self, false_or, or_false, true_and, and_true, decide_eq_true_eq, decide_eq_false_iff_not, gd_st, gd_sf, exists_eq_left', exists_eq_left, Option.some.injEq, Sl.eta, Nat.reduceLeDiff, Int.reduceLE, Int.reduceLT, Int.reduceEq, Int.reduceNe, Nat.reduceMul, Nat.reduceAdd, Nat.reduceSub, Int.toNat_natCast, beq_iff_eq, bne_iff_ne, beq_eq_false_iff_ne, bne_eq_false_iff_eq, pick_and, pick_or, Bool.and_eq_true, Bool.or_eq_true, Bool.and_eq_false_iff, Bool.or_eq_false_iff, ne_eq, not_false_eq_true, Bool.not_eq_true', Bool.not_eq_false', reduceCtorEq, Nat.le_refl, Nat.zero_mul, Nat.mul_one, Nat.zero_add, Int.reduceToNat, ones, one, add_mk, Decidable.not_not, cond_true, cond_false, true_implies, false_implies, implies_true, Bool.not_true, Bool.not_false]
  intro w1 n1
  have bk := Blk.new n1
  have x1 := n1.ext
  simp only [bk.cell, List.getElem?_cons_zero, List.getElem?_cons_succ, ex_sl, Value.int.injEq, Value.bool.injEq, Value.pointer.injEq, Value.string.injEq, eq_self, false_or, or_false, true_and, and_true, decide_eq_true_eq, decide_eq_false_iff_not, gd_st, gd_sf, exists_eq_left', exists_eq_left, Option.some.injEq, Sl.eta, Nat.reduceLeDiff, Int.reduceLE, Int.reduceLT, Int.reduceEq, Int.reduceNe, Nat.reduceMul, Nat.reduceAdd, Nat.reduceSub, Int.toNat_natCast, beq_iff_eq, bne_iff_ne, beq_eq_false_iff_ne, bne_eq_false_iff_eq, pick_and, pick_or, Bool.and_eq_true, Bool.or_eq_true, Bool.and_eq_false_iff, Bool.or_eq_false_iff, ne_eq, not_false_eq_true, Bool.not_eq_true', Bool.not_eq_false', reduceCtorEq, Nat.le_refl, Nat.zero_mul, Nat.mul_one, Nat.zero_add, Int.reduceToNat, ones, one, add_mk, Decidable.not_not, cond_true, cond_false, true_implies, false_implies, implies_true, Bool.not_true, Bool.not_false]
  have e5 : x.parts = [] → x.parts.length = 0 := fun h => by rw [h]; rfl
  have e6 : x.parts.length = 0 → x.parts = [] := List.eq_nil_of_length_eq_zero
  refine ⟨fun h2 => ⟨fun h5 => ⟨ri (wrongT_6 (by omega)).symm, x1⟩, fun h5 => ?_⟩, fun h2 => ⟨ri (wrongT_6 (by omega)).symm, x1⟩⟩
  refine ⟨fun w' => w' = w1 ∧ (x.kind = 2 → x.parts.length ≤ 12) ∧ (x.kind = 4 → x.parts.length ≤ 6), ⟨fun k2 => ⟨fun h12 => ⟨fun k4 => by omega, fun k4 => ⟨rfl, fun _ => by omega, fun h => (k4 h).elim⟩⟩, fun h12 => ⟨ri (wrongT_5 (by omega)).symm, x1⟩⟩,
    fun k2 => ⟨fun k4 => ⟨fun h6 => ⟨ri (wrongT_5 (by omega)).symm, x1⟩, fun h6 => ⟨rfl, fun h => (k2 h).elim, fun _ => by omega⟩⟩, fun k4 => ⟨rfl, fun h => (k2 h).elim, fun h => (k4 h).elim⟩⟩⟩, ?_⟩
  rintro _ w2 ⟨rfl, q2, q4⟩
  simp only [bk.cell, List.getElem?_cons_zero, List.getElem?_cons_succ, ex_sl, Value.int.injEq, Value.bool.injEq, Value.pointer.injEq, Value.string.injEq, eq_self, false_or, or_false, true_and, and_true, decide_eq_true_eq, decide_eq_false_iff_not, gd_st, gd_sf, exists_eq_left', exists_eq_left, Option.some.injEq, Sl.eta, Nat.reduceLeDiff, Int.reduceLE, Int.reduceLT, Int.reduceEq, Int.reduceNe, Nat.reduceMul, Nat.reduceAdd, Nat.reduceSub, Int.toNat_natCast, beq_iff_eq, bne_iff_ne, beq_eq_false_iff_ne, bne_eq_false_iff_eq, pick_and, pick_or, Bool.and_eq_true, Bool.or_eq_true, Bool.and_eq_false_iff, Bool.or_eq_false_iff, ne_eq, not_false_eq_true, Bool.not_eq_true', Bool.not_eq_false', reduceCtorEq, Nat.le_refl, Nat.zero_mul, Nat.mul_one, Nat.zero_add, Int.reduceToNat, ones, one, add_mk, Decidable.not_not, cond_true, cond_false, true_implies, false_implies, implies_true, Bool.not_true, Bool.not_false]
  refine ⟨fun w' => w' = w2 ∧ (x.kind = 3 ∨ x.kind = 5 → x.parts.length = 0), ⟨fun h0 => ⟨fun k3 => ⟨fun k5 => ⟨ri (wrongT_7 (.inr k5) fun h => by have := e5 h; omega).symm, x1⟩, fun k5 => ⟨rfl, fun h => by omega⟩⟩, fun k3 => ⟨ri (wrongT_7 (.inl k3) fun h => by have := e5 h; omega).symm, x1⟩⟩,
    fun h0 => ⟨rfl, fun _ => by omega⟩⟩, ?_⟩
  rintro _ w3 ⟨rfl, q35⟩
  have wok : WOk x := ⟨by omega, q2, q4, fun hh => e6 (q35 hh)⟩
  refine ⟨fun n w' => w' = w3 ∧ 0 ≤ n ∧ n ≤ x.parts.length ∧ ∀ (j : Nat) (p : Int), j < n.toNat → x.parts[j]? = some p → There L.length p, fun n _ => (x.parts.length - n).toNat, ⟨rfl, by omega, by omega, fun j p hj => by simp at hj⟩, ?_⟩
  rintro _ n w4 ⟨rfl, n0, n1', hn⟩
  simp only [bk.cell, List.getElem?_cons_zero, List.getElem?_cons_succ, ex_sl, Value.int.injEq, Value.bool.injEq, Value.pointer.injEq, Value.string.injEq, eq_self, false_or, or_false, true_and, and_true, decide_eq_true_eq, decide_eq_false_iff_not, gd_st, gd_sf, exists_eq_left', exists_eq_left, Option.some.injEq, Sl.eta, Nat.reduceLeDiff, Int.reduceLE, Int.reduceLT, Int.reduceEq, Int.reduceNe, Nat.reduceMul, Nat.reduceAdd, Nat.reduceSub, Int.toNat_natCast, beq_iff_eq, bne_iff_ne, beq_eq_false_iff_ne, bne_eq_false_iff_eq, pick_and, pick_or, Bool.and_eq_true, Bool.or_eq_true, Bool.and_eq_false_iff, Bool.or_eq_false_iff, ne_eq, not_false_eq_true, Bool.not_eq_true', Bool.not_eq_false', reduceCtorEq, Nat.le_refl, Nat.zero_mul, Nat.mul_one, Nat.zero_add, Int.reduceToNat, ones, one, add_mk, Decidable.not_not, cond_true, cond_false, true_implies, false_implies, implies_true, Bool.not_true, Bool.not_false]
  refine ⟨fun hlt => ?_, fun hge => ?_⟩
  · obtain ⟨p, v, hp, hv, hc⟩ := (hs.ext x1).intl n.toNat (by omega)
    rw [Nat.mul_one] at hc
    refine ⟨n0, hlt, p, hp, v, hc, ⟨(rthere_spec l v w4 (by omega)).mono ?_⟩⟩
    rintro e w5 ⟨rfl, rfl⟩
    refine ⟨_, rfl, fun hb => ⟨ri (wrongT_parts wok ⟨v, List.mem_of_getElem? hv, ?_⟩).symm, x1⟩, fun hb => ⟨⟨rfl, ?_, ?_, ?_⟩, ?_⟩⟩
    · have := of_decide_eq_false hb
      rw [hL, ← hl]; exact this
    · (first | (rw [wrap_i64 (by omega) (by omega)]; omega) | (dsimp only; rw [wrap_i64 (by omega) (by omega)]; omega) | (dsimp only; omega))
    · (first | (rw [wrap_i64 (by omega) (by omega)]; omega) | (dsimp only; rw [wrap_i64 (by omega) (by omega)]; omega) | (dsimp only; omega))
    · rw [wrap_i64 (by omega) (by omega)]
      intro j q hj hq
      by_cases hjn : j = n.toNat
      · subst hjn
        rw [hv] at hq; injection hq with hq; subst hq
        have := of_decide_eq_true hb
        rw [hL, ← hl]; exact this
      · exact hn j q (by omega) hq
    · (first | (rw [wrap_i64 (by omega) (by omega)]; omega) | (dsimp only; rw [wrap_i64 (by omega) (by omega)]; omega) | (dsimp only; omega))
  · have hall : ∀ p ∈ x.parts, There L.length p := fun p hp => by
      obtain ⟨j, hj, rfl⟩ := List.getElem_of_mem hp
      exact hn j _ (by omega) (List.getElem?_eq_getElem hj)
    have hend := wrongT_end wok hall
    have ob : x.kind = 5 → Calls Tryd.prog 62 #[.slice l.a l.n l.c, .int .i64 x.of] w4 fun e w' => e = .returned (.bool (objT L x.of)) ∧ w' = w4 := fun _ => hobj w4 x1
    refine ⟨(rthere_spec l x.of w4 (by omega)).mono ?_⟩
    rintro e w5 ⟨rfl, rfl⟩
    refine ⟨_, rfl, ?_⟩
    simp only [bk.cell, List.getElem?_cons_zero, List.getElem?_cons_succ, ex_sl, Value.int.injEq, Value.bool.injEq, Value.pointer.injEq, Value.string.injEq, eq_self, false_or, or_false, true_and, and_true, decide_eq_true_eq, decide_eq_false_iff_not, gd_st, gd_sf, exists_eq_left', exists_eq_left, Option.some.injEq, Sl.eta, Nat.reduceLeDiff, Int.reduceLE, Int.reduceLT, Int.reduceEq, Int.reduceNe, Nat.reduceMul, Nat.reduceAdd, Nat.reduceSub, Int.toNat_natCast, beq_iff_eq, bne_iff_ne, beq_eq_false_iff_ne, bne_eq_false_iff_eq, pick_and, pick_or, Bool.and_eq_true, Bool.or_eq_true, Bool.and_eq_false_iff, Bool.or_eq_false_iff, ne_eq, not_false_eq_true, Bool.not_eq_true', Bool.not_eq_false', reduceCtorEq, Nat.le_refl, Nat.zero_mul, Nat.mul_one, Nat.zero_add, Int.reduceToNat, ones, one, add_mk, Decidable.not_not, cond_true, cond_false, true_implies, false_implies, implies_true, Bool.not_true, Bool.not_false]
    refine ⟨fun k2 => ⟨fun k5 => by omega, fun k5 => ⟨fun hz => ⟨ri ?_, x1⟩, fun hz => ⟨ri ?_, x1⟩⟩⟩, fun k2 => ⟨fun k5 => ⟨(hobj w5 x1).mono ?_⟩, fun k5 => ⟨fun ht => ⟨ri ?_, x1⟩, fun ht => ⟨ri ?_, x1⟩⟩⟩⟩
    · rw [hend, if_pos (.inl ⟨k2, hz⟩)]
    · rw [hend, if_neg]
      rintro (hh | hh | hh)
      · exact hh.2 hz
      · omega
      · exact hh (by rw [hz]; unfold There; omega)
    · rintro e w6 ⟨rfl, rfl⟩
      refine ⟨_, rfl, fun ho => ⟨ri ?_, x1⟩, fun ho => ⟨ri ?_, x1⟩⟩
      · rw [hend, if_pos (.inr (.inl ⟨k5, ho⟩))]
      · rw [hend, if_neg]
        rintro (hh | hh | hh)
        · omega
        · rw [ho] at hh; exact Bool.noConfusion hh.2
        · exact hh (objT_there ho)
    · rw [hend, if_pos (.inr (.inr (by rw [hL, ← hl]; exact ht)))]
    · rw [hend, if_neg]
      rintro (hh | hh | hh)
      · omega
      · omega
      · rw [hL, ← hl] at hh; exact hh ht
theorem rRight_spec (h : Tys w l T) (hp : ∀ t ∈ T, t.1.parts.length ≤ 1000000000000000) (ho : ∀ t ∈ T, t.1.of ≤ 9223372036854775807) :
    Calls Tryd.prog 27 #[.slice l.a l.n l.c] w fun e w' => e = .returned (.tuple #[.int .i64 ((rightT (T.map (·.1))).1 : Nat), .int .i64 (rightT (T.map (·.1))).2]) ∧ Ext w w' := by
  refine vc_27 l _ _ ?_
  have hl := h.len
  have hL : (T.map (·.1)).length = T.length := List.length_map ..
  simp only [eq_self, false_or, or_false, true_and, and_true, decide_eq_true_eq, decide_eq_false_iff_not, gd_st, gd_sf, exists_eq_left', exists_eq_left, Option.some.injEq, Sl.eta, Nat.reduceLeDiff, Int.reduceLE, Int.reduceLT, Int.reduceEq, Int.reduceNe, Nat.reduceMul, Nat.reduceAdd, Nat.reduceSub, Int.toNat_natCast, beq_iff_eq, bne_iff_ne, beq_eq_false_iff_ne, bne_eq_false_iff_eq, pick_and, pick_or, Bool.and_eq_true, Bool.or_eq_true, Bool.and_eq_false_iff, Bool.or_eq_false_iff, ne_eq, not_false_eq_true, Bool.not_eq_true', Bool.not_eq_false', reduceCtorEq, Nat.le_refl, Nat.zero_mul, Nat.mul_one, Nat.zero_add, Int.reduceToNat, ones, one, add_mk, Decidable.not_not, cond_true, cond_false, true_implies, false_implies, implies_true, Bool.not_true, Bool.not_false]
  refine ⟨fun h60 => ⟨?_, Ext.refl w⟩, fun h60 => ?_⟩
  · unfold rightT
    rw [if_pos (by omega)]; rfl
  have hr : rightT (T.map (·.1)) = firstT (T.map (·.1)) (T.map (·.1)) 0 := by unfold rightT; rw [if_neg (by omega)]
  rw [hr]
  refine ⟨fun n w' => 0 ≤ n ∧ n ≤ T.length ∧ Ext w w' ∧ firstT (T.map (·.1)) (T.map (·.1)) 0 = firstT (T.map (·.1)) ((T.map (·.1)).drop n.toNat) n.toNat, fun n _ => (T.length - n).toNat, ⟨by omega, by omega, Ext.refl w, rfl⟩, ?_⟩
  rintro _ n w1 ⟨n0, n1, x1, hf⟩
  refine ⟨fun hlt => ?_, fun hge => ⟨?_, x1⟩⟩
  · obtain ⟨t, ht, htm, hmm⟩ := getM (T := T) (i := n.toNat) (by omega)
    obtain ⟨p, hp', hc⟩ := (h.ext x1).cell ht
    refine ⟨n0, hlt, p, hp', t.1.kind, t.2, t.1.of, rfl, ⟨hc 0 _ rfl, hc 1 _ rfl, hc 2 _ rfl⟩, ⟨(rwrong_spec (h.ext x1) ((h.ext x1).parts t htm) (by omega) (hp t htm) (ho t htm)).mono ?_⟩⟩
    rintro e w4 ⟨rfl, x4⟩
    have hdrop : (T.map (·.1)).drop n.toNat = t.1 :: (T.map (·.1)).drop (n.toNat + 1) := by
      have hi : n.toNat < (T.map (·.1)).length := by omega
      rw [List.getElem?_eq_getElem hi] at hmm
      injection hmm with hmm
      rw [← hmm]
      exact List.drop_eq_getElem_cons hi
    rw [hdrop] at hf
    have hx : Ext w w4 := x1.trans x4
    refine ⟨_, rfl, fun h5 => ⟨?_, hx⟩, fun h5 => ⟨⟨?_, ?_, hx, ?_⟩, ?_⟩⟩
    · rw [hf, firstT, if_neg h5, Int.toNat_of_nonneg n0]
    · (first | (rw [wrap_i64 (by omega) (by omega)]; omega) | (dsimp only; rw [wrap_i64 (by omega) (by omega)]; omega) | (dsimp only; omega))
    · (first | (rw [wrap_i64 (by omega) (by omega)]; omega) | (dsimp only; rw [wrap_i64 (by omega) (by omega)]; omega) | (dsimp only; omega))
    · rw [wrap_i64 (by omega) (by omega), hf, firstT, if_pos h5, show (n + 1).toNat = n.toNat + 1 by omega]
    · (first | (rw [wrap_i64 (by omega) (by omega)]; omega) | (dsimp only; rw [wrap_i64 (by omega) (by omega)]; omega) | (dsimp only; omega))
  · rw [hf, List.drop_eq_nil_of_le (by omega)]; rfl
end
end Go.Proofs.YtfppdkkbekkhbaaDoor.V.T
