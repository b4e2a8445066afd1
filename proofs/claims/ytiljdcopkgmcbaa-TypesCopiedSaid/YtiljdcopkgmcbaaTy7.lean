/-
  The document's answer for types, but Alike.
-/
import Derived.Test.YtiljdcopkgmcbaaTy6
namespace Go.Proofs.Ytiljdcopkgmcbaa.V
open Go Go.RowKit
set_option linter.unusedVariables false
set_option linter.unusedSimpArgs false
set_option maxRecDepth 100000

section
variable {w : World} {l : Sl} {T : List Tp}
theorem rthere_spec (l : Sl) (n : Int) (w : World) (hm : l.n ≤ 1000000000000000) :
    Calls Try.prog 50 #[.slice l.a l.n l.c, .int .i64 n] w fun e w' => e = .returned (.bool (decide (There l.n n))) ∧ w' = w := by
  refine vc_50 l n _ _ ?_
  simp only [eq_self, false_or, or_false, true_and, and_true, decide_eq_true_eq, decide_eq_false_iff_not, gd_st, gd_sf, exists_eq_left', exists_eq_left, Option.some.injEq, Sl.eta, Nat.reduceLeDiff, Int.reduceLE, Int.reduceLT, Int.reduceEq, Int.reduceNe, Nat.reduceMul, Nat.reduceAdd, Nat.reduceSub, Int.toNat_natCast, beq_iff_eq, bne_iff_ne, beq_eq_false_iff_ne, bne_eq_false_iff_eq, pick_and, pick_or, Bool.and_eq_true, Bool.or_eq_true, Bool.and_eq_false_iff, Bool.or_eq_false_iff, ne_eq, not_false_eq_true, Bool.not_eq_true', Bool.not_eq_false', reduceCtorEq, Nat.le_refl, Nat.zero_mul, Nat.mul_one, Nat.zero_add, Int.reduceToNat, ones, one, add_mk, Decidable.not_not, cond_true, cond_false, true_implies, false_implies, implies_true, Bool.not_true, Bool.not_false]
  rw [wrap_i64 (by omega) (by omega)]
  exact ⟨fun h => rb (by simp [There, h]), fun h => rb (by simp [There, h])⟩
theorem rkind_spec (h : Tys w l T) (hm : T.length ≤ 1000000000000000) (n : Int) (hn : n ≤ 9223372036854775807) :
    Calls Try.prog 40 #[.slice l.a l.n l.c, .int .i64 n] w fun e w' => e = .returned (.int .i64 (kindT (T.map (·.1)) n)) ∧ w' = w := by
  refine vc_40 _ _ _ _ ?_
  have hl := h.len
  have hL : (T.map (·.1)).length = T.length := List.length_map ..
  simp only [eq_self, false_or, or_false, true_and, and_true, decide_eq_true_eq, decide_eq_false_iff_not, gd_st, gd_sf, exists_eq_left', exists_eq_left, Option.some.injEq, Sl.eta, Nat.reduceLeDiff, Int.reduceLE, Int.reduceLT, Int.reduceEq, Int.reduceNe, Nat.reduceMul, Nat.reduceAdd, Nat.reduceSub, Int.toNat_natCast, beq_iff_eq, bne_iff_ne, beq_eq_false_iff_ne, bne_eq_false_iff_eq, pick_and, pick_or, Bool.and_eq_true, Bool.or_eq_true, Bool.and_eq_false_iff, Bool.or_eq_false_iff, ne_eq, not_false_eq_true, Bool.not_eq_true', Bool.not_eq_false', reduceCtorEq, Nat.le_refl, Nat.zero_mul, Nat.mul_one, Nat.zero_add, Int.reduceToNat, ones, one, add_mk, Decidable.not_not, cond_true, cond_false, true_implies, false_implies, implies_true, Bool.not_true, Bool.not_false]
  refine ⟨fun h0 => ⟨fun h1 => ri ?_, fun h1 => ⟨fun hge => ?_, fun hlt => ri ?_⟩⟩, fun h0 => ri ?_⟩
  · unfold kindT; rw [if_pos (.inr h1)]
  · rw [wrap_i64 (by omega) (by omega)]
    refine ⟨fun hh => ri ?_, fun hh => ?_⟩
    · rw [kindT_not (by omega) (by unfold There; omega)]
    · obtain ⟨x, hx, hk⟩ := kindT_there (L := T.map (·.1)) (n := n) (by omega) (by unfold There; omega)
      obtain ⟨t, ht, htm, hmm⟩ := getM (T := T) (i := (n - 2).toNat) (by omega)
      rw [hx] at hmm; injection hmm with hmm; subst hmm
      obtain ⟨p, hp, hc⟩ := h.cell ht
      have c0 := hc 0 _ rfl
      (repeat' (first | refine ⟨_, by assumption, ?_⟩ | refine ⟨by omega, ?_⟩ | refine ⟨by assumption, ?_⟩ | fail))
      exact ri hk.symm
  · unfold kindT; rw [if_neg (by omega), if_pos hlt]
  · unfold kindT; rw [if_pos (.inl h0)]
theorem rref_spec (h : Tys w l T) (hm : T.length ≤ 1000000000000000) (n : Int) (hn : n ≤ 9223372036854775807) :
    Calls Try.prog 42 #[.slice l.a l.n l.c, .int .i64 n] w fun e w' => e = .returned (.bool (refT (T.map (·.1)) n)) ∧ w' = w := by
  refine vc_42 _ _ _ _ ?_
  simp only [eq_self, false_or, or_false, true_and, and_true, decide_eq_true_eq, decide_eq_false_iff_not, gd_st, gd_sf, exists_eq_left', exists_eq_left, Option.some.injEq, Sl.eta, Nat.reduceLeDiff, Int.reduceLE, Int.reduceLT, Int.reduceEq, Int.reduceNe, Nat.reduceMul, Nat.reduceAdd, Nat.reduceSub, Int.toNat_natCast, beq_iff_eq, bne_iff_ne, beq_eq_false_iff_ne, bne_eq_false_iff_eq, pick_and, pick_or, Bool.and_eq_true, Bool.or_eq_true, Bool.and_eq_false_iff, Bool.or_eq_false_iff, ne_eq, not_false_eq_true, Bool.not_eq_true', Bool.not_eq_false', reduceCtorEq, Nat.le_refl, Nat.zero_mul, Nat.mul_one, Nat.zero_add, Int.reduceToNat, ones, one, add_mk, Decidable.not_not, cond_true, cond_false, true_implies, false_implies, implies_true, Bool.not_true, Bool.not_false]
  refine ⟨(rkind_spec h hm n hn).mono ?_⟩
  rintro e w' ⟨rfl, rfl⟩
  exact ⟨_, rfl, rfl, rfl⟩
theorem robj_spec (h : Tys w l T) (hm : T.length ≤ 1000000000000000) (n : Int) (hn : n ≤ 9223372036854775807) :
    Calls Try.prog 51 #[.slice l.a l.n l.c, .int .i64 n] w fun e w' => e = .returned (.bool (objT (T.map (·.1)) n)) ∧ w' = w := by
  refine vc_51 _ _ _ _ ?_
  simp only [eq_self, false_or, or_false, true_and, and_true, decide_eq_true_eq, decide_eq_false_iff_not, gd_st, gd_sf, exists_eq_left', exists_eq_left, Option.some.injEq, Sl.eta, Nat.reduceLeDiff, Int.reduceLE, Int.reduceLT, Int.reduceEq, Int.reduceNe, Nat.reduceMul, Nat.reduceAdd, Nat.reduceSub, Int.toNat_natCast, beq_iff_eq, bne_iff_ne, beq_eq_false_iff_ne, bne_eq_false_iff_eq, pick_and, pick_or, Bool.and_eq_true, Bool.or_eq_true, Bool.and_eq_false_iff, Bool.or_eq_false_iff, ne_eq, not_false_eq_true, Bool.not_eq_true', Bool.not_eq_false', reduceCtorEq, Nat.le_refl, Nat.zero_mul, Nat.mul_one, Nat.zero_add, Int.reduceToNat, ones, one, add_mk, Decidable.not_not, cond_true, cond_false, true_implies, false_implies, implies_true, Bool.not_true, Bool.not_false]
  refine ⟨(rkind_spec h hm n hn).mono ?_⟩
  rintro e w' ⟨rfl, rfl⟩
  have key : 2 ≤ kindT (T.map (·.1)) n → 1 < n := by
    intro h2
    refine Int.not_le.1 fun hle => ?_
    unfold kindT at h2
    split at h2
    · omega
    · split at h2 <;> omega
  unfold objT
  generalize kindT (T.map (·.1)) n = k at *
  refine ⟨_, rfl, fun h2 => ⟨fun h3 => ⟨rb ?_, rfl⟩, fun h3 => ⟨rb ?_, rfl⟩⟩, fun h2 => ⟨rb ?_, rfl⟩⟩
  · rw [Bool.eq_iff_iff, beq_iff_eq, decide_eq_true_eq]
    constructor
    · intro h4; exact ⟨by omega, by omega, key (by omega)⟩
    · rintro ⟨_, _, _⟩; omega
  · exact (decide_eq_true ⟨by omega, by omega, key (by omega)⟩).symm
  · exact (decide_eq_true ⟨by omega, by omega, key (by omega)⟩).symm
/-- a type of the list itself -/
theorem in_list {L : List Ty} {n : Int} (h : 2 ≤ kindT L n) : 0 ≤ n - 2 ∧ n - 2 < L.length ∧ ∃ x, L[(n - 2).toNat]? = some x ∧ kindT L n = x.kind := by
  have h1 : 1 < n := by
    refine Int.not_le.1 fun hle => ?_
    unfold kindT at h
    split at h
    · omega
    · split at h <;> omega
  have h2 : There L.length n := Classical.byContradiction fun hb => by
    have := kindT_not h1 hb; omega
  refine ⟨by omega, by unfold There at h2; omega, kindT_there h1 h2⟩
theorem rof_spec (h : Tys w l T) (hm : T.length ≤ 1000000000000000) (n : Int) (hn : n ≤ 9223372036854775807) :
    Calls Try.prog 41 #[.slice l.a l.n l.c, .int .i64 n] w fun e w' => e = .returned (.int .i64 (ofT (T.map (·.1)) n)) ∧ w' = w := by
  refine vc_41 _ _ _ _ ?_
  have hl := h.len
  have hL : (T.map (·.1)).length = T.length := List.length_map ..
  simp only [eq_self, false_or, or_false, true_and, and_true, decide_eq_true_eq, decide_eq_false_iff_not, gd_st, gd_sf, exists_eq_left', exists_eq_left, Option.some.injEq, Sl.eta, Nat.reduceLeDiff, Int.reduceLE, Int.reduceLT, Int.reduceEq, Int.reduceNe, Nat.reduceMul, Nat.reduceAdd, Nat.reduceSub, Int.toNat_natCast, beq_iff_eq, bne_iff_ne, beq_eq_false_iff_ne, bne_eq_false_iff_eq, pick_and, pick_or, Bool.and_eq_true, Bool.or_eq_true, Bool.and_eq_false_iff, Bool.or_eq_false_iff, ne_eq, not_false_eq_true, Bool.not_eq_true', Bool.not_eq_false', reduceCtorEq, Nat.le_refl, Nat.zero_mul, Nat.mul_one, Nat.zero_add, Int.reduceToNat, ones, one, add_mk, Decidable.not_not, cond_true, cond_false, true_implies, false_implies, implies_true, Bool.not_true, Bool.not_false]
  refine ⟨(rkind_spec h hm n hn).mono ?_⟩
  rintro e w' ⟨rfl, rfl⟩
  have main : 3 ≤ kindT (T.map (·.1)) n → kindT (T.map (·.1)) n ≤ 5 → 0 ≤ IntKind.i64.wrap (n - 2) ∧ IntKind.i64.wrap (n - 2) < l.n ∧ ∃ p, l.a = some p ∧ ∃ n_2, w'.cell? ((p.add ((IntKind.i64.wrap (n - 2)).toNat * 3)).add 2) = some (Value.int .i64 n_2) ∧
      Ending.returned (Value.int .i64 n_2) = Ending.returned (Value.int .i64 (ofT (T.map (·.1)) n)) ∧ w' = w' := by
    intro h3 h5
    obtain ⟨i0, i1, x, hx, hk⟩ := in_list (L := T.map (·.1)) (n := n) (by omega)
    obtain ⟨t, ht, htm, hmm⟩ := getM (T := T) (i := (n - 2).toNat) (by omega)
    obtain ⟨p, hp, hc⟩ := h.cell ht
    have c0 := hc 2 _ rfl
    rw [wrap_i64 (by omega) (by omega)]
    refine ⟨i0, by omega, p, hp, _, c0, ri ?_, rfl⟩
    unfold ofT
    rw [if_pos ⟨h3, h5⟩, hmm]
  refine ⟨_, rfl, fun h3 => ⟨fun h4 => ⟨fun h5 => main (by omega) (by omega), fun h5 => ⟨ri ?_, rfl⟩⟩, fun h4 => main (by omega) (by omega)⟩, fun h3 => main (by omega) (by omega)⟩
  unfold ofT; rw [if_neg (by omega)]
theorem rparts_spec (h : Tys w l T) (hm : T.length ≤ 1000000000000000) (n : Int) (hn : n ≤ 9223372036854775807) :
    Calls Try.prog 43 #[.slice l.a l.n l.c, .int .i64 n] w fun e w' => ∃ r : Sl, e = .returned (.slice r.a r.n r.c) ∧ Rd w 1 r (iv (partsT (T.map (·.1)) n)) ∧ w' = w := by
  refine vc_43 _ _ _ _ ?_
  have hl := h.len
  have hL : (T.map (·.1)).length = T.length := List.length_map ..
  simp only [eq_self, false_or, or_false, true_and, and_true, decide_eq_true_eq, decide_eq_false_iff_not, gd_st, gd_sf, exists_eq_left', exists_eq_left, Option.some.injEq, Sl.eta, Nat.reduceLeDiff, Int.reduceLE, Int.reduceLT, Int.reduceEq, Int.reduceNe, Nat.reduceMul, Nat.reduceAdd, Nat.reduceSub, Int.toNat_natCast, beq_iff_eq, bne_iff_ne, beq_eq_false_iff_ne, bne_eq_false_iff_eq, pick_and, pick_or, Bool.and_eq_true, Bool.or_eq_true, Bool.and_eq_false_iff, Bool.or_eq_false_iff, ne_eq, not_false_eq_true, Bool.not_eq_true', Bool.not_eq_false', reduceCtorEq, Nat.le_refl, Nat.zero_mul, Nat.mul_one, Nat.zero_add, Int.reduceToNat, ones, one, add_mk, Decidable.not_not, cond_true, cond_false, true_implies, false_implies, implies_true, Bool.not_true, Bool.not_false]
  refine ⟨(rkind_spec h hm n hn).mono ?_⟩
  rintro e w' ⟨rfl, rfl⟩
  have main : (kindT (T.map (·.1)) n = 2 ∨ kindT (T.map (·.1)) n = 4) → 0 ≤ IntKind.i64.wrap (n - 2) ∧ IntKind.i64.wrap (n - 2) < l.n ∧ ∃ p, l.a = some p ∧ ∃ s : Sl, w'.cell? ((p.add ((IntKind.i64.wrap (n - 2)).toNat * 3)).add 1) = some (Value.slice s.a s.n s.c) ∧
      ∃ r : Sl, Ending.returned (Value.slice s.a s.n s.c) = Ending.returned (Value.slice r.a r.n r.c) ∧ Rd w' 1 r (iv (partsT (T.map (·.1)) n)) ∧ w' = w' := by
    intro h3
    obtain ⟨i0, i1, x, hx, hk⟩ := in_list (L := T.map (·.1)) (n := n) (by omega)
    obtain ⟨t, ht, htm, hmm⟩ := getM (T := T) (i := (n - 2).toNat) (by omega)
    obtain ⟨p, hp, hc⟩ := h.cell ht
    have c0 := hc 1 _ rfl
    rw [wrap_i64 (by omega) (by omega)]
    refine ⟨i0, by omega, p, hp, t.2, c0, t.2, rfl, ?_, rfl⟩
    unfold partsT
    rw [if_pos h3, hmm]
    exact h.parts t htm
  refine ⟨_, rfl, fun h3 => ⟨fun h4 => main (.inr h4), fun h4 => ⟨⟨none, 0, 0⟩, rfl, ?_, rfl⟩⟩, fun h3 => main (.inl h3)⟩
  unfold partsT; rw [if_neg (by omega)]
  exact Rd.nil ..
theorem rrefs_spec (h : Tys w l T) (hm : T.length ≤ 1000000000000000) {s : Sl} {ps : List Int} (hs : Rd w 1 s (iv ps)) (f : Nat) (hf : f + ps.length ≤ 60) (hp : ∀ p ∈ ps, p ≤ 9223372036854775807) :
    Calls Try.prog 45 #[.slice l.a l.n l.c, .slice s.a s.n s.c, .int .i64 (f : Nat)] w fun e w' => e = .returned (.int .u64 (bitsT (T.map (·.1)) ps f : Nat)) ∧ w' = w := by
  refine vc_45 _ _ _ _ _ ?_
  have hl := hs.leni
  simp only [eq_self, false_or, or_false, true_and, and_true, decide_eq_true_eq, decide_eq_false_iff_not, gd_st, gd_sf, exists_eq_left', exists_eq_left, Option.some.injEq, Sl.eta, Nat.reduceLeDiff, Int.reduceLE, Int.reduceLT, Int.reduceEq, Int.reduceNe, Nat.reduceMul, Nat.reduceAdd, Nat.reduceSub, Int.toNat_natCast, beq_iff_eq, bne_iff_ne, beq_eq_false_iff_ne, bne_eq_false_iff_eq, pick_and, pick_or, Bool.and_eq_true, Bool.or_eq_true, Bool.and_eq_false_iff, Bool.or_eq_false_iff, ne_eq, not_false_eq_true, Bool.not_eq_true', Bool.not_eq_false', reduceCtorEq, Nat.le_refl, Nat.zero_mul, Nat.mul_one, Nat.zero_add, Int.reduceToNat, ones, one, add_mk, Decidable.not_not, cond_true, cond_false, true_implies, false_implies, implies_true, Bool.not_true, Bool.not_false]
  generalize hLe : T.map (·.1) = L
  refine ⟨fun b n w' => ∃ c : Nat, b = c ∧ c < 18446744073709551616 ∧ 0 ≤ n ∧ n ≤ ps.length ∧ w' = w ∧ bitsGo L (ps.drop n.toNat) (n.toNat + f) c = bitsT L ps f, fun _ n _ => (ps.length - n).toNat, ⟨0, rfl, by omega, by omega, by omega, rfl, by simp [bitsT]⟩, ?_⟩
  rintro _ b n w1 ⟨c, rfl, c1, n0, n1, rfl, hb⟩
  refine ⟨fun hlt => ?_, fun hge => ⟨ri ?_, rfl⟩⟩
  · obtain ⟨i, rfl⟩ : ∃ i : Nat, n = i := ⟨n.toNat, by omega⟩
    obtain ⟨p, x, hp', hx, hc⟩ := hs.intl i (by omega)
    rw [Nat.mul_one] at hc
    rw [Int.toNat_natCast] at hb ⊢
    have hd : ps.drop i = x :: ps.drop (i + 1) := by
      have hi : i < ps.length := by omega
      rw [List.getElem?_eq_getElem hi] at hx; injection hx with hx
      rw [← hx]; exact List.drop_eq_getElem_cons hi
    rw [hd, bitsGo] at hb
    refine ⟨n0, hlt, p, hp', x, hc, ⟨(rref_spec h hm x (hp x (List.mem_of_getElem? hx))).mono ?_⟩⟩
    rintro e w2 ⟨rfl, rfl⟩
    rw [hLe, wrap_i64 (n := (i : Int) + (f : Nat)) (by omega) (by omega), wrap_u64 (by omega) (by omega)]
    refine ⟨_, rfl, fun hr => ⟨by omega, ⟨c ||| 2 ^ (i + f), ?_, ?_, ?_, ?_, rfl, ?_⟩, ?_⟩, fun hr => ⟨⟨c, rfl, c1, ?_, ?_, rfl, ?_⟩, ?_⟩⟩
    · have hp : 2 ^ (i + f) < 18446744073709551616 := by
        have : 2 ^ (i + f) ≤ 2 ^ 63 := Nat.pow_le_pow_right (by omega) (by omega)
        omega
      have := shl_u64 1 (i + f) (by omega)
      rw [show ((1 : Nat) : Int) = 1 from rfl, Int.natCast_add] at this
      rw [this, Nat.one_mul, Nat.mod_eq_of_lt hp, or_u64 _ _ c1 hp]
    · have hp : 2 ^ (i + f) ≤ 2 ^ 63 := Nat.pow_le_pow_right (by omega) (by omega)
      exact Nat.or_lt_two_pow (n := 64) (by omega) (by omega)
    · (first | (rw [wrap_i64 (by omega) (by omega)]; omega) | (dsimp only; rw [wrap_i64 (by omega) (by omega)]; omega) | (dsimp only; omega))
    · (first | (rw [wrap_i64 (by omega) (by omega)]; omega) | (dsimp only; rw [wrap_i64 (by omega) (by omega)]; omega) | (dsimp only; omega))
    · rw [wrap_i64 (by omega) (by omega), show ((i : Int) + 1).toNat = i + 1 by omega, ← hb, if_pos hr, show i + 1 + f = i + f + 1 by omega]
    · (first | (rw [wrap_i64 (by omega) (by omega)]; omega) | (dsimp only; rw [wrap_i64 (by omega) (by omega)]; omega) | (dsimp only; omega))
    · (first | (rw [wrap_i64 (by omega) (by omega)]; omega) | (dsimp only; rw [wrap_i64 (by omega) (by omega)]; omega) | (dsimp only; omega))
    · (first | (rw [wrap_i64 (by omega) (by omega)]; omega) | (dsimp only; rw [wrap_i64 (by omega) (by omega)]; omega) | (dsimp only; omega))
    · rw [wrap_i64 (by omega) (by omega), show ((i : Int) + 1).toNat = i + 1 by omega, ← hb, if_neg (by rw [hr]; decide), show i + 1 + f = i + f + 1 by omega]
    · (first | (rw [wrap_i64 (by omega) (by omega)]; omega) | (dsimp only; rw [wrap_i64 (by omega) (by omega)]; omega) | (dsimp only; omega))
  · rw [List.drop_eq_nil_of_le (by omega)] at hb
    rw [← hb]; rfl
theorem partsT_in {L : List Ty} (hr : Right L) (n : Int) : (partsT L n).length ≤ 12 ∧ ∀ p ∈ partsT L n, 0 ≤ p ∧ p < L.length + 2 := by
  by_cases hb : 0 ≤ n ∧ n < L.length + 2
  · have hi : n.toNat < (allT L).length := by have := allT_len L; omega
    have ha := all_at hr hb.1 (List.getElem?_eq_getElem hi)
    rw [ha.2.2.1]
    have k := hr.all _ (List.getElem_mem hi)
    exact ⟨k.few, fun p hp => by have := k.parts p hp; have := allT_len L; omega⟩
  · rw [(not_at hb hr).2.1]; simp
theorem rrecord_spec (h : Tys w l T) (hr : Right (T.map (·.1))) (n : Int) (hn : n ≤ 9223372036854775807) : Calls Try.prog 27 #[.slice l.a l.n l.c, .int .i64 n] w fun e w' =>
    e = .returned (.tuple #[hdV (recordT (T.map (·.1)) n).1, .bool (recordT (T.map (·.1)) n).2]) ∧ Ext w w' := by
  refine vc_27 _ _ _ _ ?_
  have hL : (T.map (·.1)).length = T.length := List.length_map ..
  have hm := hr.few
  simp only [eq_self, false_or, or_false, true_and, and_true, decide_eq_true_eq, decide_eq_false_iff_not, gd_st, gd_sf, exists_eq_left', exists_eq_left, Option.some.injEq, Sl.eta, Nat.reduceLeDiff, Int.reduceLE, Int.reduceLT, Int.reduceEq, Int.reduceNe, Nat.reduceMul, Nat.reduceAdd, Nat.reduceSub, Int.toNat_natCast, beq_iff_eq, bne_iff_ne, beq_eq_false_iff_ne, bne_eq_false_iff_eq, pick_and, pick_or, Bool.and_eq_true, Bool.or_eq_true, Bool.and_eq_false_iff, Bool.or_eq_false_iff, ne_eq, not_false_eq_true, Bool.not_eq_true', Bool.not_eq_false', reduceCtorEq, Nat.le_refl, Nat.zero_mul, Nat.mul_one, Nat.zero_add, Int.reduceToNat, ones, one, add_mk, Decidable.not_not, cond_true, cond_false, true_implies, false_implies, implies_true, Bool.not_true, Bool.not_false]
  intro w1 n1
  have x1 := n1.ext
  have h1 := h.ext x1
  have k1 := Blk.new n1
  refine ⟨(rkind_spec h1 (by omega) n hn).mono ?_⟩
  rintro e w2 ⟨rfl, rfl⟩
  have hpi := partsT_in hr n
  refine ⟨_, rfl, fun hk => ?_, fun hk => ?_⟩
  · refine ⟨k1.canSetN 0 4 (by simp), fun w3 s3 => ?_⟩
    have k3 := hd_set k1 s3
    simp only [k3.cell, List.getElem?_cons_zero, List.getElem?_cons_succ, ex_sl, Value.int.injEq, Value.bool.injEq, Value.pointer.injEq, Value.string.injEq, eq_self, false_or, or_false, true_and, and_true, decide_eq_true_eq, decide_eq_false_iff_not, gd_st, gd_sf, exists_eq_left', exists_eq_left, Option.some.injEq, Sl.eta, Nat.reduceLeDiff, Int.reduceLE, Int.reduceLT, Int.reduceEq, Int.reduceNe, Nat.reduceMul, Nat.reduceAdd, Nat.reduceSub, Int.toNat_natCast, beq_iff_eq, bne_iff_ne, beq_eq_false_iff_ne, bne_eq_false_iff_eq, pick_and, pick_or, Bool.and_eq_true, Bool.or_eq_true, Bool.and_eq_false_iff, Bool.or_eq_false_iff, ne_eq, not_false_eq_true, Bool.not_eq_true', Bool.not_eq_false', reduceCtorEq, Nat.le_refl, Nat.zero_mul, Nat.mul_one, Nat.zero_add, Int.reduceToNat, ones, one, add_mk, Decidable.not_not, cond_true, cond_false, true_implies, false_implies, implies_true, Bool.not_true, Bool.not_false]
    refine ⟨_, _, _, _, rfl, ⟨rfl, rfl, rfl, rfl⟩, ?_, x1.fresh s3.upd (by rintro i rfl; exact Nat.le_refl _)⟩
    rw [recordT, if_neg hk]; rfl
  · refine ⟨(rparts_spec h1 (by omega) n hn).mono ?_⟩
    rintro e w3 ⟨r, rfl, hrd, rfl⟩
    have hrl := hrd.leni
    refine ⟨r, rfl, ⟨(rrefs_spec h1 (by omega) hrd 0 (by omega) (fun p hp => by have := hpi.2 p hp; omega)).mono ?_⟩⟩
    rintro e w4 ⟨rfl, rfl⟩
    refine ⟨_, rfl, by simp [len', wr], by simp [len', wr], by simp [len', wr], k1.canSetN 0 4 (by simp), fun w4 s4 => ?_⟩
    have k4 := hd_set k1 s4
    simp only [k4.cell, List.getElem?_cons_zero, List.getElem?_cons_succ, ex_sl, Value.int.injEq, Value.bool.injEq, Value.pointer.injEq, Value.string.injEq, eq_self, false_or, or_false, true_and, and_true, decide_eq_true_eq, decide_eq_false_iff_not, gd_st, gd_sf, exists_eq_left', exists_eq_left, Option.some.injEq, Sl.eta, Nat.reduceLeDiff, Int.reduceLE, Int.reduceLT, Int.reduceEq, Int.reduceNe, Nat.reduceMul, Nat.reduceAdd, Nat.reduceSub, Int.toNat_natCast, beq_iff_eq, bne_iff_ne, beq_eq_false_iff_ne, bne_eq_false_iff_eq, pick_and, pick_or, Bool.and_eq_true, Bool.or_eq_true, Bool.and_eq_false_iff, Bool.or_eq_false_iff, ne_eq, not_false_eq_true, Bool.not_eq_true', Bool.not_eq_false', reduceCtorEq, Nat.le_refl, Nat.zero_mul, Nat.mul_one, Nat.zero_add, Int.reduceToNat, ones, one, add_mk, Decidable.not_not, cond_true, cond_false, true_implies, false_implies, implies_true, Bool.not_true, Bool.not_false]
    refine ⟨_, _, _, _, rfl, ⟨rfl, rfl, rfl, rfl⟩, ?_, x1.fresh s4.upd (by rintro i rfl; exact Nat.le_refl _)⟩
    rw [recordT, if_pos hk, ← hrl]; rfl
theorem ofT_in {L : List Ty} (hr : Right L) (n : Int) : -1 ≤ ofT L n ∧ ofT L n < L.length + 2 := by
  have hl := allT_len L
  by_cases hb : 0 ≤ n ∧ n < L.length + 2
  · obtain ⟨x, hx⟩ : ∃ x, (allT L)[n.toNat]? = some x := ⟨_, List.getElem?_eq_getElem (by omega)⟩
    have ha := all_at hr hb.1 hx
    have k := (hr.all x (List.mem_of_getElem? hx)).of
    rw [ha.2.2.2]
    rw [hl] at k
    by_cases h2 : x.kind ≤ 2
    · rw [if_pos h2]; omega
    · rw [if_neg h2]; omega
  · rw [(not_at hb hr).2.2]; omega
theorem rarray_spec (h : Tys w l T) (hr : Right (T.map (·.1))) (n size : Int) (hn : n ≤ 9223372036854775807) : Calls Try.prog 29 #[.slice l.a l.n l.c, .int .i64 n, .int .i64 size] w fun e w' =>
    e = .returned (.tuple #[hdV (arrayT (T.map (·.1)) n size).1, .bool (arrayT (T.map (·.1)) n size).2]) ∧ Ext w w' := by
  refine vc_29 _ _ _ _ _ ?_
  have hL : (T.map (·.1)).length = T.length := List.length_map ..
  have hm := hr.few
  simp only [eq_self, false_or, or_false, true_and, and_true, decide_eq_true_eq, decide_eq_false_iff_not, gd_st, gd_sf, exists_eq_left', exists_eq_left, Option.some.injEq, Sl.eta, Nat.reduceLeDiff, Int.reduceLE, Int.reduceLT, Int.reduceEq, Int.reduceNe, Nat.reduceMul, Nat.reduceAdd, Nat.reduceSub, Int.toNat_natCast, beq_iff_eq, bne_iff_ne, beq_eq_false_iff_ne, bne_eq_false_iff_eq, pick_and, pick_or, Bool.and_eq_true, Bool.or_eq_true, Bool.and_eq_false_iff, Bool.or_eq_false_iff, ne_eq, not_false_eq_true, Bool.not_eq_true', Bool.not_eq_false', reduceCtorEq, Nat.le_refl, Nat.zero_mul, Nat.mul_one, Nat.zero_add, Int.reduceToNat, ones, one, add_mk, Decidable.not_not, cond_true, cond_false, true_implies, false_implies, implies_true, Bool.not_true, Bool.not_false]
  intro w1 n1
  have x1 := n1.ext
  have h1 := h.ext x1
  have k1 := Blk.new n1
  refine ⟨(rkind_spec h1 (by omega) n hn).mono ?_⟩
  rintro e w2 ⟨rfl, rfl⟩
  refine ⟨_, rfl, fun hk => ⟨fun h0 => ⟨fun hbig => ?_, fun hbig => ?_⟩, fun h0 => ?_⟩, fun hk => ?_⟩
  rotate_left
  · refine ⟨by simp [len', wr], fun w3 n3 => ⟨by simp [len', wr], ?_⟩⟩
    have k3 := Blk.new n3
    refine ⟨k3.canSetN 0 4 (by simp), fun w4 s4 => ?_⟩
    have k4 := hd_set k3 s4
    have hlt : w.heap.size < w2.heap.size := by rw [n1.size]; omega
    have x4 : Ext w2 w4 := n3.ext.fresh s4.upd (by rintro i rfl; exact Nat.le_refl _)
    have k14 := k1.ext x4
    refine ⟨(rof_spec (h1.ext x4) (by omega) n hn).mono ?_⟩
    rintro e w5 ⟨rfl, rfl⟩
    have ho : ofT (T.map (·.1)) n ≤ 9223372036854775807 := by have := (ofT_in hr n).2; omega
    have hrs := rref_spec (h1.ext x4) (by omega) (ofT (T.map (·.1)) n) ho
    refine ⟨_, rfl, ⟨hrs.mono ?_⟩⟩
    rintro e w6 ⟨rfl, rfl⟩
    refine ⟨_, rfl, fun hf => ⟨k4.canSetN 0 1 (by simp), fun w7 s7 => ?_⟩, fun hf => ?_⟩
    · have k7 := s7.blk1 k4
      simp only [List.set] at k7
      have x7 : Ext w2 w7 := x4.fresh s7.upd (by rintro i rfl; exact Nat.le_refl _)
      have k17 := k1.ext x7
      simp only [k7.cell, List.getElem?_cons_zero, List.getElem?_cons_succ, ex_sl, Value.int.injEq, Value.bool.injEq, Value.pointer.injEq, Value.string.injEq, eq_self, false_or, or_false, true_and, and_true, decide_eq_true_eq, decide_eq_false_iff_not, gd_st, gd_sf, exists_eq_left', exists_eq_left, Option.some.injEq, Sl.eta, Nat.reduceLeDiff, Int.reduceLE, Int.reduceLT, Int.reduceEq, Int.reduceNe, Nat.reduceMul, Nat.reduceAdd, Nat.reduceSub, Int.toNat_natCast, beq_iff_eq, bne_iff_ne, beq_eq_false_iff_ne, bne_eq_false_iff_eq, pick_and, pick_or, Bool.and_eq_true, Bool.or_eq_true, Bool.and_eq_false_iff, Bool.or_eq_false_iff, ne_eq, not_false_eq_true, Bool.not_eq_true', Bool.not_eq_false', reduceCtorEq, Nat.le_refl, Nat.zero_mul, Nat.mul_one, Nat.zero_add, Int.reduceToNat, ones, one, add_mk, Decidable.not_not, cond_true, cond_false, true_implies, false_implies, implies_true, Bool.not_true, Bool.not_false]
      refine ⟨_, _, _, _, rfl, ⟨rfl, rfl, rfl, rfl⟩, rfl, k17.canSetN 0 4 (by simp), fun w8 s8 => ?_⟩
      have k8 := hd_set k17 s8
      simp only [k8.cell, List.getElem?_cons_zero, List.getElem?_cons_succ, ex_sl, Value.int.injEq, Value.bool.injEq, Value.pointer.injEq, Value.string.injEq, eq_self, false_or, or_false, true_and, and_true, decide_eq_true_eq, decide_eq_false_iff_not, gd_st, gd_sf, exists_eq_left', exists_eq_left, Option.some.injEq, Sl.eta, Nat.reduceLeDiff, Int.reduceLE, Int.reduceLT, Int.reduceEq, Int.reduceNe, Nat.reduceMul, Nat.reduceAdd, Nat.reduceSub, Int.toNat_natCast, beq_iff_eq, bne_iff_ne, beq_eq_false_iff_ne, bne_eq_false_iff_eq, pick_and, pick_or, Bool.and_eq_true, Bool.or_eq_true, Bool.and_eq_false_iff, Bool.or_eq_false_iff, ne_eq, not_false_eq_true, Bool.not_eq_true', Bool.not_eq_false', reduceCtorEq, Nat.le_refl, Nat.zero_mul, Nat.mul_one, Nat.zero_add, Int.reduceToNat, ones, one, add_mk, Decidable.not_not, cond_true, cond_false, true_implies, false_implies, implies_true, Bool.not_true, Bool.not_false]
      refine ⟨_, _, _, _, rfl, ⟨rfl, rfl, rfl, rfl⟩, ?_, (x1.trans x7).fresh s8.upd (by rintro i rfl; exact Nat.le_refl _)⟩
      rw [arrayT, if_pos (by omega), if_pos hf]; rfl
    · simp only [k4.cell, List.getElem?_cons_zero, List.getElem?_cons_succ, ex_sl, Value.int.injEq, Value.bool.injEq, Value.pointer.injEq, Value.string.injEq, eq_self, false_or, or_false, true_and, and_true, decide_eq_true_eq, decide_eq_false_iff_not, gd_st, gd_sf, exists_eq_left', exists_eq_left, Option.some.injEq, Sl.eta, Nat.reduceLeDiff, Int.reduceLE, Int.reduceLT, Int.reduceEq, Int.reduceNe, Nat.reduceMul, Nat.reduceAdd, Nat.reduceSub, Int.toNat_natCast, beq_iff_eq, bne_iff_ne, beq_eq_false_iff_ne, bne_eq_false_iff_eq, pick_and, pick_or, Bool.and_eq_true, Bool.or_eq_true, Bool.and_eq_false_iff, Bool.or_eq_false_iff, ne_eq, not_false_eq_true, Bool.not_eq_true', Bool.not_eq_false', reduceCtorEq, Nat.le_refl, Nat.zero_mul, Nat.mul_one, Nat.zero_add, Int.reduceToNat, ones, one, add_mk, Decidable.not_not, cond_true, cond_false, true_implies, false_implies, implies_true, Bool.not_true, Bool.not_false]
      refine ⟨_, _, _, _, rfl, ⟨rfl, rfl, rfl, rfl⟩, rfl, k14.canSetN 0 4 (by simp), fun w8 s8 => ?_⟩
      have k8 := hd_set k14 s8
      simp only [k8.cell, List.getElem?_cons_zero, List.getElem?_cons_succ, ex_sl, Value.int.injEq, Value.bool.injEq, Value.pointer.injEq, Value.string.injEq, eq_self, false_or, or_false, true_and, and_true, decide_eq_true_eq, decide_eq_false_iff_not, gd_st, gd_sf, exists_eq_left', exists_eq_left, Option.some.injEq, Sl.eta, Nat.reduceLeDiff, Int.reduceLE, Int.reduceLT, Int.reduceEq, Int.reduceNe, Nat.reduceMul, Nat.reduceAdd, Nat.reduceSub, Int.toNat_natCast, beq_iff_eq, bne_iff_ne, beq_eq_false_iff_ne, bne_eq_false_iff_eq, pick_and, pick_or, Bool.and_eq_true, Bool.or_eq_true, Bool.and_eq_false_iff, Bool.or_eq_false_iff, ne_eq, not_false_eq_true, Bool.not_eq_true', Bool.not_eq_false', reduceCtorEq, Nat.le_refl, Nat.zero_mul, Nat.mul_one, Nat.zero_add, Int.reduceToNat, ones, one, add_mk, Decidable.not_not, cond_true, cond_false, true_implies, false_implies, implies_true, Bool.not_true, Bool.not_false]
      refine ⟨_, _, _, _, rfl, ⟨rfl, rfl, rfl, rfl⟩, ?_, (x1.trans x4).fresh s8.upd (by rintro i rfl; exact Nat.le_refl _)⟩
      rw [arrayT, if_pos (by omega), if_neg (by rw [hf]; decide)]; rfl
  all_goals
    refine ⟨k1.canSetN 0 4 (by simp), fun w3 s3 => ?_⟩
    have k3 := hd_set k1 s3
    simp only [k3.cell, List.getElem?_cons_zero, List.getElem?_cons_succ, ex_sl, Value.int.injEq, Value.bool.injEq, Value.pointer.injEq, Value.string.injEq, eq_self, false_or, or_false, true_and, and_true, decide_eq_true_eq, decide_eq_false_iff_not, gd_st, gd_sf, exists_eq_left', exists_eq_left, Option.some.injEq, Sl.eta, Nat.reduceLeDiff, Int.reduceLE, Int.reduceLT, Int.reduceEq, Int.reduceNe, Nat.reduceMul, Nat.reduceAdd, Nat.reduceSub, Int.toNat_natCast, beq_iff_eq, bne_iff_ne, beq_eq_false_iff_ne, bne_eq_false_iff_eq, pick_and, pick_or, Bool.and_eq_true, Bool.or_eq_true, Bool.and_eq_false_iff, Bool.or_eq_false_iff, ne_eq, not_false_eq_true, Bool.not_eq_true', Bool.not_eq_false', reduceCtorEq, Nat.le_refl, Nat.zero_mul, Nat.mul_one, Nat.zero_add, Int.reduceToNat, ones, one, add_mk, Decidable.not_not, cond_true, cond_false, true_implies, false_implies, implies_true, Bool.not_true, Bool.not_false]
    refine ⟨_, _, _, _, rfl, ⟨rfl, rfl, rfl, rfl⟩, ?_, x1.fresh s3.upd (by rintro i rfl; exact Nat.le_refl _)⟩
    rw [arrayT, if_neg (by omega)]; rfl
theorem rclosure_spec (h : Tys w l T) (hr : Right (T.map (·.1))) (n : Int) (hn : n ≤ 9223372036854775807) {s : Sl} {cs : List Int} (hs : Rd w 1 s (iv cs)) (hc : ∀ c ∈ cs, c ≤ 9223372036854775807) (hm : cs.length ≤ 1000000000000000) :
    Calls Try.prog 31 #[.slice l.a l.n l.c, .int .i64 n, .slice s.a s.n s.c] w fun e w' =>
    e = .returned (.tuple #[hdV (closureT (T.map (·.1)) n cs).1, .bool (closureT (T.map (·.1)) n cs).2]) ∧ Ext w w' := by
  refine vc_31 _ _ _ _ _ ?_
  have hL : (T.map (·.1)).length = T.length := List.length_map ..
  have hfew := hr.few
  have hsl := hs.leni
  simp only [eq_self, false_or, or_false, true_and, and_true, decide_eq_true_eq, decide_eq_false_iff_not, gd_st, gd_sf, exists_eq_left', exists_eq_left, Option.some.injEq, Sl.eta, Nat.reduceLeDiff, Int.reduceLE, Int.reduceLT, Int.reduceEq, Int.reduceNe, Nat.reduceMul, Nat.reduceAdd, Nat.reduceSub, Int.toNat_natCast, beq_iff_eq, bne_iff_ne, beq_eq_false_iff_ne, bne_eq_false_iff_eq, pick_and, pick_or, Bool.and_eq_true, Bool.or_eq_true, Bool.and_eq_false_iff, Bool.or_eq_false_iff, ne_eq, not_false_eq_true, Bool.not_eq_true', Bool.not_eq_false', reduceCtorEq, Nat.le_refl, Nat.zero_mul, Nat.mul_one, Nat.zero_add, Int.reduceToNat, ones, one, add_mk, Decidable.not_not, cond_true, cond_false, true_implies, false_implies, implies_true, Bool.not_true, Bool.not_false]
  intro w1 n1
  have x1 := n1.ext
  have h1 := h.ext x1
  have hs1 := hs.ext x1
  have k1 := Blk.new n1
  refine ⟨(rkind_spec h1 (by omega) n hn).mono ?_⟩
  rintro e w2 ⟨rfl, rfl⟩
  have bad : (closureT (T.map (·.1)) n cs = (hd0, false)) → CanSet w2 ⟨w.heap.size, 0, none⟩ 4 ∧ ∀ w1, SetW w2 ⟨w.heap.size, 0, none⟩ [.int .i64 0, .int .i64 0, .int .i64 0, .int .u64 0] w1 →
      ∃ a b c d, len' [Value.int .i64 a, .int .i64 b, .int .i64 c, .int .u64 d] = 4 ∧ (w1.cell? ⟨w.heap.size, 0, none⟩ = some (.int .i64 a) ∧ w1.cell? ⟨w.heap.size, 1, none⟩ = some (.int .i64 b) ∧ w1.cell? ⟨w.heap.size, 2, none⟩ = some (.int .i64 c) ∧ w1.cell? ⟨w.heap.size, 3, none⟩ = some (.int .u64 d)) ∧
        Ending.returned (.tuple #[.agg #[.int .i64 a, .int .i64 b, .int .i64 c, .int .u64 d], .bool false]) = .returned (.tuple #[hdV (closureT (T.map (·.1)) n cs).1, .bool (closureT (T.map (·.1)) n cs).2]) ∧ Ext w w1 := by
    intro he
    refine ⟨k1.canSetN 0 4 (by simp), fun w3 s3 => ?_⟩
    have k3 := hd_set k1 s3
    simp only [k3.cell, List.getElem?_cons_zero, List.getElem?_cons_succ, ex_sl, Value.int.injEq, Value.bool.injEq, Value.pointer.injEq, Value.string.injEq, eq_self, false_or, or_false, true_and, and_true, decide_eq_true_eq, decide_eq_false_iff_not, gd_st, gd_sf, exists_eq_left', exists_eq_left, Option.some.injEq, Sl.eta, Nat.reduceLeDiff, Int.reduceLE, Int.reduceLT, Int.reduceEq, Int.reduceNe, Nat.reduceMul, Nat.reduceAdd, Nat.reduceSub, Int.toNat_natCast, beq_iff_eq, bne_iff_ne, beq_eq_false_iff_ne, bne_eq_false_iff_eq, pick_and, pick_or, Bool.and_eq_true, Bool.or_eq_true, Bool.and_eq_false_iff, Bool.or_eq_false_iff, ne_eq, not_false_eq_true, Bool.not_eq_true', Bool.not_eq_false', reduceCtorEq, Nat.le_refl, Nat.zero_mul, Nat.mul_one, Nat.zero_add, Int.reduceToNat, ones, one, add_mk, Decidable.not_not, cond_true, cond_false, true_implies, false_implies, implies_true, Bool.not_true, Bool.not_false]
    refine ⟨_, _, _, _, rfl, ⟨rfl, rfl, rfl, rfl⟩, ?_, x1.fresh s3.upd (by rintro i rfl; exact Nat.le_refl _)⟩
    rw [he]; rfl
  refine ⟨_, rfl, fun hk => ⟨fun h32 => bad (by rw [closureT, if_neg (by omega)]), fun h32 => ?_⟩, fun hk => bad (by rw [closureT, if_neg (by omega)])⟩
  refine ⟨fun j w' => 0 ≤ j ∧ j ≤ cs.length ∧ w' = w2 ∧ ∀ (i : Nat) (x : Int), i < j.toNat → cs[i]? = some x → 0 ≤ kindT (T.map (·.1)) x, fun j _ => (cs.length - j).toNat, ⟨by omega, by omega, rfl, fun i x hi => by simp at hi⟩, ?_⟩
  rintro _ j w3 ⟨j0, j1, rfl, hj⟩
  refine ⟨fun hlt => ?_, fun hge => ?_⟩
  · obtain ⟨p, x, hp, hx, hcx⟩ := hs1.intl j.toNat (by omega)
    rw [Nat.mul_one] at hcx
    refine ⟨j0, hlt, p, hp, x, hcx, ⟨(rkind_spec h1 (by omega) x (hc x (List.mem_of_getElem? hx))).mono ?_⟩⟩
    rintro e w4 ⟨rfl, rfl⟩
    refine ⟨_, rfl, fun hneg => bad ?_, fun hneg => ⟨⟨?_, ?_, rfl, ?_⟩, ?_⟩⟩
    · rw [closureT, if_neg]
      rintro ⟨_, _, hall⟩
      have := hall x (List.mem_of_getElem? hx)
      omega
    · (first | (rw [wrap_i64 (by omega) (by omega)]; omega) | (dsimp only; rw [wrap_i64 (by omega) (by omega)]; omega) | (dsimp only; omega))
    · (first | (rw [wrap_i64 (by omega) (by omega)]; omega) | (dsimp only; rw [wrap_i64 (by omega) (by omega)]; omega) | (dsimp only; omega))
    · rw [wrap_i64 (by omega) (by omega)]
      intro i y hi hy
      by_cases e : i = j.toNat
      · subst e; rw [hx] at hy; injection hy with hy; subst hy; omega
      · exact hj i y (by omega) hy
    · (first | (rw [wrap_i64 (by omega) (by omega)]; omega) | (dsimp only; rw [wrap_i64 (by omega) (by omega)]; omega) | (dsimp only; omega))
  · refine ⟨(rrefs_spec h1 (by omega) hs1 1 (by omega) hc).mono ?_⟩
    rintro e w4 ⟨rfl, rfl⟩
    refine ⟨_, rfl, by simp [len', wr], by simp [len', wr], by simp [len', wr], k1.canSetN 0 4 (by simp), fun w4 s4 => ?_⟩
    have k4 := hd_set k1 s4
    simp only [k4.cell, List.getElem?_cons_zero, List.getElem?_cons_succ, ex_sl, Value.int.injEq, Value.bool.injEq, Value.pointer.injEq, Value.string.injEq, eq_self, false_or, or_false, true_and, and_true, decide_eq_true_eq, decide_eq_false_iff_not, gd_st, gd_sf, exists_eq_left', exists_eq_left, Option.some.injEq, Sl.eta, Nat.reduceLeDiff, Int.reduceLE, Int.reduceLT, Int.reduceEq, Int.reduceNe, Nat.reduceMul, Nat.reduceAdd, Nat.reduceSub, Int.toNat_natCast, beq_iff_eq, bne_iff_ne, beq_eq_false_iff_ne, bne_eq_false_iff_eq, pick_and, pick_or, Bool.and_eq_true, Bool.or_eq_true, Bool.and_eq_false_iff, Bool.or_eq_false_iff, ne_eq, not_false_eq_true, Bool.not_eq_true', Bool.not_eq_false', reduceCtorEq, Nat.le_refl, Nat.zero_mul, Nat.mul_one, Nat.zero_add, Int.reduceToNat, ones, one, add_mk, Decidable.not_not, cond_true, cond_false, true_implies, false_implies, implies_true, Bool.not_true, Bool.not_false]
    refine ⟨_, _, _, _, rfl, ⟨rfl, rfl, rfl, rfl⟩, ?_, x1.fresh s4.upd (by rintro i rfl; exact Nat.le_refl _)⟩
    rw [closureT, if_pos]
    · rw [wrap_i64 (by omega) (by omega), Int.add_comm, ← hsl]; rfl
    · refine ⟨hk, by omega, fun x hx => ?_⟩
      obtain ⟨i, hi, rfl⟩ := List.getElem_of_mem hx
      exact hj i _ (by omega) (List.getElem?_eq_getElem hi)
theorem objT_there {L : List Ty} {n : Int} (h : objT L n = true) : There L.length n := by
  have := of_decide_eq_true h
  have := in_list (L := L) (n := n) this.1
  unfold There; omega
theorem rwrong_spec {x : Ty} {s : Sl} (h : Tys w l T) (hs : Rd w 1 s (iv x.parts)) (hm : T.length ≤ 1000000000000000) (hp : x.parts.length ≤ 1000000000000000) (ho : x.of ≤ 9223372036854775807) :
    Calls Try.prog 35 #[.slice l.a l.n l.c, .agg #[.int .i64 x.kind, .slice s.a s.n s.c, .int .i64 x.of]] w fun e w' => e = .returned (.int .i64 (wrongT (T.map (·.1)) x)) ∧ Ext w w' := by
  refine vc_35 l x.kind s x.of _ _ ?_
  have hl := h.len
  have hL : (T.map (·.1)).length = T.length := List.length_map ..
  have hsl := hs.leni
  have hobj := fun (w' : World) (u : Ext w w') => robj_spec (h.ext u) hm x.of ho
  generalize T.map (·.1) = L at *
  simp only [eq_self, false_or, or_false, true_and, and_true, decide_eq_true_eq, decide_eq_false_iff_not, gd_st, gd_sf, exists_eq_left', exists_eq_left, Option.some.injEq, Sl.eta, Nat.reduceLeDiff, Int.reduceLE, Int.reduceLT, Int.reduceEq, Int.reduceNe, Nat.reduceMul, Nat.reduceAdd, Nat.reduceSub, Int.toNat_natCast, beq_iff_eq, bne_iff_ne, beq_eq_false_iff_ne, bne_eq_false_iff_eq, pick_and, pick_or, Bool.and_eq_true, Bool.or_eq_true, Bool.and_eq_false_iff, Bool.or_eq_false_iff, ne_eq, not_false_eq_true, Bool.not_eq_true', Bool.not_eq_false', reduceCtorEq, Nat.le_refl, Nat.zero_mul, Nat.mul_one, Nat.zero_add, Int.reduceToNat, ones, one, add_mk, Decidable.not_not, cond_true, cond_false, true_implies, false_implies, implies_true, Bool.not_true, Bool.not_false]
  intro w1 n1
  have bk := Blk.new n1
  have x1 := n1.ext
  simp only [bk.cell, List.getElem?_cons_zero, List.getElem?_cons_succ, ex_sl, Value.int.injEq, Value.bool.injEq, Value.pointer.injEq, Value.string.injEq, eq_self, false_or, or_false, true_and, and_true, decide_eq_true_eq, decide_eq_false_iff_not, gd_st, gd_sf, exists_eq_left', exists_eq_left, Option.some.injEq, Sl.eta, Nat.reduceLeDiff, Int.reduceLE, Int.reduceLT, Int.reduceEq, Int.reduceNe, Nat.reduceMul, Nat.reduceAdd, Nat.reduceSub, Int.toNat_natCast, beq_iff_eq, bne_iff_ne, beq_eq_false_iff_ne, bne_eq_false_iff_eq, pick_and, pick_or, Bool.and_eq_true, Bool.or_eq_true, Bool.and_eq_false_iff, Bool.or_eq_false_iff, ne_eq, not_false_eq_true, Bool.not_eq_true', Bool.not_eq_false', reduceCtorEq, Nat.le_refl, Nat.zero_mul, Nat.mul_one, Nat.zero_add, Int.reduceToNat, ones, one, add_mk, Decidable.not_not, cond_true, cond_false, true_implies, false_implies, implies_true, Bool.not_true, Bool.not_false]
  have e5 : x.parts = [] → x.parts.length = 0 := fun h => by rw [h]; rfl
  have e6 : x.parts.length = 0 → x.parts = [] := List.eq_nil_of_length_eq_zero
  refine ⟨fun h2 => ⟨fun h5 => ⟨ri (wrongT_6 (by omega)).symm, x1⟩, fun h5 => ?_⟩, fun h2 => ⟨ri (wrongT_6 (by omega)).symm, x1⟩⟩
  refine ⟨fun w' => w' = w1 ∧ (x.kind = 2 → x.parts.length ≤ 12) ∧ (x.kind = 4 → x.parts.length ≤ 6), ⟨fun k2 => ⟨fun h12 => ⟨fun k4 => by omega, fun k4 => ⟨rfl, fun _ => by omega, fun h => (k4 h).elim⟩⟩, fun h12 => ⟨ri (wrongT_5 (by omega)).symm, x1⟩⟩,
    fun k2 => ⟨fun k4 => ⟨fun h6 => ⟨ri (wrongT_5 (by omega)).symm, x1⟩, fun h6 => ⟨rfl, fun h => (k2 h).elim, fun _ => by omega⟩⟩, fun k4 => ⟨rfl, fun h => (k2 h).elim, fun h => (k4 h).elim⟩⟩⟩, ?_⟩
  rintro _ w2 ⟨rfl, q2, q4⟩
  simp only [bk.cell, List.getElem?_cons_zero, List.getElem?_cons_succ, ex_sl, Value.int.injEq, Value.bool.injEq, Value.pointer.injEq, Value.string.injEq, eq_self, false_or, or_false, true_and, and_true, decide_eq_true_eq, decide_eq_false_iff_not, gd_st, gd_sf, exists_eq_left', exists_eq_left, Option.some.injEq, Sl.eta, Nat.reduceLeDiff, Int.reduceLE, Int.reduceLT, Int.reduceEq, Int.reduceNe, Nat.reduceMul, Nat.reduceAdd, Nat.reduceSub, Int.toNat_natCast, beq_iff_eq, bne_iff_ne, beq_eq_false_iff_ne, bne_eq_false_iff_eq, pick_and, pick_or, Bool.and_eq_true, Bool.or_eq_true, Bool.and_eq_false_iff, Bool.or_eq_false_iff, ne_eq, not_false_eq_true, Bool.not_eq_true', Bool.not_eq_false', reduceCtorEq, Nat.le_refl, Nat.zero_mul, Nat.mul_one, Nat.zero_add, Int.reduceToNat, ones, one, add_mk, Decidable.not_not, cond_true, cond_false, true_implies, false_implies, implies_true, Bool.not_true, Bool.not_false]
  refine ⟨fun w' => w' = w2 ∧ (x.kind = 3 ∨ x.kind = 5 → x.parts.length = 0), ⟨fun h0 => ⟨fun k3 => ⟨fun k5 => ⟨ri (wrongT_7 (.inr k5) fun h => by have := e5 h; omega).symm, x1⟩, fun k5 => ⟨rfl, fun h => by omega⟩⟩, fun k3 => ⟨ri (wrongT_7 (.inl k3) fun h => by have := e5 h; omega).symm, x1⟩⟩,
    fun h0 => ⟨rfl, fun _ => by omega⟩⟩, ?_⟩
  rintro _ w3 ⟨rfl, q35⟩
  have wok : WOk x := ⟨by omega, q2, q4, fun hh => e6 (q35 hh)⟩
  refine ⟨fun n w' => w' = w3 ∧ 0 ≤ n ∧ n ≤ x.parts.length ∧ ∀ (j : Nat) (p : Int), j < n.toNat → x.parts[j]? = some p → There L.length p, fun n _ => (x.parts.length - n).toNat, ⟨rfl, by omega, by omega, fun j p hj => by simp at hj⟩, ?_⟩
  rintro _ n w4 ⟨rfl, n0, n1', hn⟩
  simp only [bk.cell, List.getElem?_cons_zero, List.getElem?_cons_succ, ex_sl, Value.int.injEq, Value.bool.injEq, Value.pointer.injEq, Value.string.injEq, eq_self, false_or, or_false, true_and, and_true, decide_eq_true_eq, decide_eq_false_iff_not, gd_st, gd_sf, exists_eq_left', exists_eq_left, Option.some.injEq, Sl.eta, Nat.reduceLeDiff, Int.reduceLE, Int.reduceLT, Int.reduceEq, Int.reduceNe, Nat.reduceMul, Nat.reduceAdd, Nat.reduceSub, Int.toNat_natCast, beq_iff_eq, bne_iff_ne, beq_eq_false_iff_ne, bne_eq_false_iff_eq, pick_and, pick_or, Bool.and_eq_true, Bool.or_eq_true, Bool.and_eq_false_iff, Bool.or_eq_false_iff, ne_eq, not_false_eq_true, Bool.not_eq_true', Bool.not_eq_false', reduceCtorEq, Nat.le_refl, Nat.zero_mul, Nat.mul_one, Nat.zero_add, Int.reduceToNat, ones, one, add_mk, Decidable.not_not, cond_true, cond_false, true_implies, false_implies, implies_true, Bool.not_true, Bool.not_false]
  refine ⟨fun hlt => ?_, fun hge => ?_⟩
  · obtain ⟨p, v, hp, hv, hc⟩ := (hs.ext x1).intl n.toNat (by omega)
    rw [Nat.mul_one] at hc
    refine ⟨n0, hlt, p, hp, v, hc, ⟨(rthere_spec l v w4 (by omega)).mono ?_⟩⟩
    rintro e w5 ⟨rfl, rfl⟩
    refine ⟨_, rfl, fun hb => ⟨ri (wrongT_parts wok ⟨v, List.mem_of_getElem? hv, ?_⟩).symm, x1⟩, fun hb => ⟨⟨rfl, ?_, ?_, ?_⟩, ?_⟩⟩
    · have := of_decide_eq_false hb
      rw [hL, ← hl]; exact this
    · (first | (rw [wrap_i64 (by omega) (by omega)]; omega) | (dsimp only; rw [wrap_i64 (by omega) (by omega)]; omega) | (dsimp only; omega))
    · (first | (rw [wrap_i64 (by omega) (by omega)]; omega) | (dsimp only; rw [wrap_i64 (by omega) (by omega)]; omega) | (dsimp only; omega))
    · rw [wrap_i64 (by omega) (by omega)]
      intro j q hj hq
      by_cases hjn : j = n.toNat
      · subst hjn
        rw [hv] at hq; injection hq with hq; subst hq
        have := of_decide_eq_true hb
        rw [hL, ← hl]; exact this
      · exact hn j q (by omega) hq
    · (first | (rw [wrap_i64 (by omega) (by omega)]; omega) | (dsimp only; rw [wrap_i64 (by omega) (by omega)]; omega) | (dsimp only; omega))
  · have hall : ∀ p ∈ x.parts, There L.length p := fun p hp => by
      obtain ⟨j, hj, rfl⟩ := List.getElem_of_mem hp
      exact hn j _ (by omega) (List.getElem?_eq_getElem hj)
    have hend := wrongT_end wok hall
    have ob : x.kind = 5 → Calls Try.prog 51 #[.slice l.a l.n l.c, .int .i64 x.of] w4 fun e w' => e = .returned (.bool (objT L x.of)) ∧ w' = w4 := fun _ => hobj w4 x1
    refine ⟨(rthere_spec l x.of w4 (by omega)).mono ?_⟩
    rintro e w5 ⟨rfl, rfl⟩
    refine ⟨_, rfl, ?_⟩
    simp only [bk.cell, List.getElem?_cons_zero, List.getElem?_cons_succ, ex_sl, Value.int.injEq, Value.bool.injEq, Value.pointer.injEq, Value.string.injEq, eq_self, false_or, or_false, true_and, and_true, decide_eq_true_eq, decide_eq_false_iff_not, gd_st, gd_sf, exists_eq_left', exists_eq_left, Option.some.injEq, Sl.eta, Nat.reduceLeDiff, Int.reduceLE, Int.reduceLT, Int.reduceEq, Int.reduceNe, Nat.reduceMul, Nat.reduceAdd, Nat.reduceSub, Int.toNat_natCast, beq_iff_eq, bne_iff_ne, beq_eq_false_iff_ne, bne_eq_false_iff_eq, pick_and, pick_or, Bool.and_eq_true, Bool.or_eq_true, Bool.and_eq_false_iff, Bool.or_eq_false_iff, ne_eq, not_false_eq_true, Bool.not_eq_true', Bool.not_eq_false', reduceCtorEq, Nat.le_refl, Nat.zero_mul, Nat.mul_one, Nat.zero_add, Int.reduceToNat, ones, one, add_mk, Decidable.not_not, cond_true, cond_false, true_implies, false_implies, implies_true, Bool.not_true, Bool.not_false]
    refine ⟨fun k2 => ⟨fun k5 => by omega, fun k5 => ⟨fun hz => ⟨ri ?_, x1⟩, fun hz => ⟨ri ?_, x1⟩⟩⟩, fun k2 => ⟨fun k5 => ⟨(hobj w5 x1).mono ?_⟩, fun k5 => ⟨fun ht => ⟨ri ?_, x1⟩, fun ht => ⟨ri ?_, x1⟩⟩⟩⟩
    · rw [hend, if_pos (.inl ⟨k2, hz⟩)]
    · rw [hend, if_neg]
      rintro (hh | hh | hh)
      · exact hh.2 hz
      · omega
      · exact hh (by rw [hz]; unfold There; omega)
    · rintro e w6 ⟨rfl, rfl⟩
      refine ⟨_, rfl, fun ho => ⟨ri ?_, x1⟩, fun ho => ⟨ri ?_, x1⟩⟩
      · rw [hend, if_pos (.inr (.inl ⟨k5, ho⟩))]
      · rw [hend, if_neg]
        rintro (hh | hh | hh)
        · omega
        · rw [ho] at hh; exact Bool.noConfusion hh.2
        · exact hh (objT_there ho)
    · rw [hend, if_pos (.inr (.inr (by rw [hL, ← hl]; exact ht)))]
    · rw [hend, if_neg]
      rintro (hh | hh | hh)
      · omega
      · omega
      · rw [hL, ← hl] at hh; exact hh ht
theorem rRight_spec (h : Tys w l T) (hp : ∀ t ∈ T, t.1.parts.length ≤ 1000000000000000) (ho : ∀ t ∈ T, t.1.of ≤ 9223372036854775807) :
    Calls Try.prog 14 #[.slice l.a l.n l.c] w fun e w' => e = .returned (.tuple #[.int .i64 ((rightT (T.map (·.1))).1 : Nat), .int .i64 (rightT (T.map (·.1))).2]) ∧ Ext w w' := by
  refine vc_14 l _ _ ?_
  have hl := h.len
  have hL : (T.map (·.1)).length = T.length := List.length_map ..
  simp only [eq_self, false_or, or_false, true_and, and_true, decide_eq_true_eq, decide_eq_false_iff_not, gd_st, gd_sf, exists_eq_left', exists_eq_left, Option.some.injEq, Sl.eta, Nat.reduceLeDiff, Int.reduceLE, Int.reduceLT, Int.reduceEq, Int.reduceNe, Nat.reduceMul, Nat.reduceAdd, Nat.reduceSub, Int.toNat_natCast, beq_iff_eq, bne_iff_ne, beq_eq_false_iff_ne, bne_eq_false_iff_eq, pick_and, pick_or, Bool.and_eq_true, Bool.or_eq_true, Bool.and_eq_false_iff, Bool.or_eq_false_iff, ne_eq, not_false_eq_true, Bool.not_eq_true', Bool.not_eq_false', reduceCtorEq, Nat.le_refl, Nat.zero_mul, Nat.mul_one, Nat.zero_add, Int.reduceToNat, ones, one, add_mk, Decidable.not_not, cond_true, cond_false, true_implies, false_implies, implies_true, Bool.not_true, Bool.not_false]
  refine ⟨fun h60 => ⟨?_, Ext.refl w⟩, fun h60 => ?_⟩
  · unfold rightT
    rw [if_pos (by omega)]; rfl
  have hr : rightT (T.map (·.1)) = firstT (T.map (·.1)) (T.map (·.1)) 0 := by unfold rightT; rw [if_neg (by omega)]
  rw [hr]
  refine ⟨fun n w' => 0 ≤ n ∧ n ≤ T.length ∧ Ext w w' ∧ firstT (T.map (·.1)) (T.map (·.1)) 0 = firstT (T.map (·.1)) ((T.map (·.1)).drop n.toNat) n.toNat, fun n _ => (T.length - n).toNat, ⟨by omega, by omega, Ext.refl w, rfl⟩, ?_⟩
  rintro _ n w1 ⟨n0, n1, x1, hf⟩
  refine ⟨fun hlt => ?_, fun hge => ⟨?_, x1⟩⟩
  · obtain ⟨t, ht, htm, hmm⟩ := getM (T := T) (i := n.toNat) (by omega)
    obtain ⟨p, hp', hc⟩ := (h.ext x1).cell ht
    refine ⟨n0, hlt, p, hp', t.1.kind, t.2, t.1.of, rfl, ⟨hc 0 _ rfl, hc 1 _ rfl, hc 2 _ rfl⟩, ⟨(rwrong_spec (h.ext x1) ((h.ext x1).parts t htm) (by omega) (hp t htm) (ho t htm)).mono ?_⟩⟩
    rintro e w4 ⟨rfl, x4⟩
    have hdrop : (T.map (·.1)).drop n.toNat = t.1 :: (T.map (·.1)).drop (n.toNat + 1) := by
      have hi : n.toNat < (T.map (·.1)).length := by omega
      rw [List.getElem?_eq_getElem hi] at hmm
      injection hmm with hmm
      rw [← hmm]
      exact List.drop_eq_getElem_cons hi
    rw [hdrop] at hf
    have hx : Ext w w4 := x1.trans x4
    refine ⟨_, rfl, fun h5 => ⟨?_, hx⟩, fun h5 => ⟨⟨?_, ?_, hx, ?_⟩, ?_⟩⟩
    · rw [hf, firstT, if_neg h5, Int.toNat_of_nonneg n0]
    · (first | (rw [wrap_i64 (by omega) (by omega)]; omega) | (dsimp only; rw [wrap_i64 (by omega) (by omega)]; omega) | (dsimp only; omega))
    · (first | (rw [wrap_i64 (by omega) (by omega)]; omega) | (dsimp only; rw [wrap_i64 (by omega) (by omega)]; omega) | (dsimp only; omega))
    · rw [wrap_i64 (by omega) (by omega), hf, firstT, if_pos h5, show (n + 1).toNat = n.toNat + 1 by omega]
    · (first | (rw [wrap_i64 (by omega) (by omega)]; omega) | (dsimp only; rw [wrap_i64 (by omega) (by omega)]; omega) | (dsimp only; omega))
  · rw [hf, List.drop_eq_nil_of_le (by omega)]; rfl
end
end Go.Proofs.Ytiljdcopkgmcbaa.V
