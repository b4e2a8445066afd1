/-
  The laws of types: Table.
-/
import Derived.Test.YtiljdcopkgmcbaaLy5
namespace Go.Proofs.Ytiljdcopkgmcbaa.V
open Go Go.RowKit
set_option linter.unusedVariables false
set_option linter.unusedSimpArgs false
set_option maxRecDepth 100000

theorem typestable_walk (w : World) (v0 v1 : Value) (x0 : (Dt.sl 40 TyR).T) (x1 : (Dt.sl 40 AskR).T) (h0 : (Par.one (.sl 40 TyR)).Is w v0 x0) (h1 : (Par.one (.sl 40 AskR)).Is w v1 x1) :
    Calls Try.prog 6 #[v0, v1] w fun e w' => e = .returned (.bool true) ∧ Ext w w' := by
  obtain ⟨T0, rfl, hc, hn, hT0, ha0⟩ := is_types h0
  obtain ⟨qs, rfl, hcq, hnq, hQ, hq⟩ := is_asks h1
  obtain ⟨l, xl⟩ := x0
  obtain ⟨as_, xas⟩ := x1
  clear h0 h1
  dsimp only at *
  refine vc_6 l as_ _ _ ?_
  simp only [eq_self, false_or, or_false, true_and, and_true, decide_eq_true_eq, decide_eq_false_iff_not, gd_st, gd_sf, exists_eq_left', exists_eq_left, Option.some.injEq, Sl.eta, Nat.reduceLeDiff, Int.reduceLE, Int.reduceLT, Int.reduceEq, Int.reduceNe, Nat.reduceMul, Nat.reduceAdd, Nat.reduceSub, Int.toNat_natCast, beq_iff_eq, bne_iff_ne, beq_eq_false_iff_ne, bne_eq_false_iff_eq, pick_and, pick_or, Bool.and_eq_true, Bool.or_eq_true, Bool.and_eq_false_iff, Bool.or_eq_false_iff, ne_eq, not_false_eq_true, Bool.not_eq_true', Bool.not_eq_false', reduceCtorEq, Nat.le_refl, Nat.zero_mul, Nat.mul_one, Nat.zero_add, Int.reduceToNat, ones, one, add_mk, Decidable.not_not, cond_true, cond_false, true_implies, false_implies, implies_true, Bool.not_true, Bool.not_false]
  refine ⟨(shown_spec w).mono ?_⟩
  rintro e w1 ⟨rfl, x1⟩
  have hl0 := hT0.len
  refine ⟨_, rfl, fun s w' => w' = w1 ∧ ∃ T, Tys w1 s T ∧ ArgT T ∧ T.length ≤ 300, ⟨fun h => ⟨by omega, rfl, _, cut_tys (hT0.ext x1) (by omega), ha0.take 300, by rw [List.length_take]; omega⟩, fun h => ⟨rfl, T0, hT0.ext x1, ha0, by omega⟩⟩, ?_⟩
  rintro _ s w1 ⟨rfl, T, hT, ha, hm⟩
  have hl := hT.len
  have hql := hQ.len
  refine ⟨(lent_spec hT ha (by omega)).mono ?_⟩
  rintro e w2 ⟨r, T', rfl, hL, heq, x2⟩
  have heq' := lent_same heq hm
  refine ⟨_, rfl, ⟨(New_spec hL.tys (lent_parts heq' ha)).mono ?_⟩⟩
  rintro e w3 ⟨x3, hr⟩
  rw [heq'] at hr
  have hr' : ∃ a, e = .returned (.tuple #[.pointer a, .int .i64 (rightT (T.map (·.1))).2]) ∧ (((rightT (T.map (·.1))).2 ≠ 0 ∧ a = none) ∨ ((rightT (T.map (·.1))).2 = 0 ∧ ∃ g, a = some ⟨g, 0, none⟩ ∧ Table w3 w2.heap.size g (T.map (·.1)))) := by
    rcases hr with ⟨hne, rfl⟩ | ⟨he, g, rfl, ht⟩
    · exact ⟨none, rfl, .inl ⟨hne, rfl⟩⟩
    · exact ⟨_, by rw [he], .inr ⟨he, g, rfl, ht⟩⟩
  clear hr
  obtain ⟨a, rfl, hr⟩ := hr'
  refine ⟨_, _, rfl, ⟨(rRight_spec (hT.ext (x2.trans x3)) ha.p15 ha.of).mono ?_⟩⟩
  rintro e w4 ⟨rfl, x4⟩
  refine ⟨_, _, rfl, ⟨(whole_spec hT ha hL x2 (x3.trans x4) heq).mono ?_⟩⟩
  rintro e w5 ⟨rfl, u5⟩
  have x15 : Ext w1 w5 := (x2.trans (x3.trans x4)).fresh u5 fun k hk => hk.1
  have x5 : Ext w w5 := x1.trans x15
  refine ⟨_, rfl, fun _ => ⟨fun _ => ⟨fun _ => ⟨fun h => (by cases h), fun _ => ?_⟩, fun h => (h ?_).elim⟩, fun h => (h rfl).elim⟩, fun h => (by cases h)⟩
  rotate_left
  · rcases hr with ⟨hne, rfl⟩ | ⟨he, g, rfl, ht⟩
    · simp [hne]
    · simp [he]
  rcases hr with ⟨hne, rfl⟩ | ⟨he, g, rfl, ht⟩
  · exact ⟨fun _ => x5, fun h => (by cases h)⟩
  have ht5 : Table w5 w2.heap.size g (T.map (·.1)) := (ht.ext x4).upd u5 fun k hk => .inl hk.2
  refine ⟨fun h => (by cases h), fun _ => ⟨fun k w' => 0 ≤ k ∧ k ≤ 2 ∧ Ext w5 w', fun k _ => (2 - k).toNat, ⟨by omega, by omega, .refl _⟩, ?_⟩⟩
  rintro _ k w6 ⟨k0, k1, x6⟩
  rw [wrap_i64 (n := (s.n : Int) + 5) (by omega) (by omega), wrap_i64 (n := (s.n : Int) + 2) (by omega) (by omega)]
  refine ⟨fun hk => ⟨fun n w' => -2 ≤ n ∧ n ≤ s.n + 5 ∧ Ext w5 w', fun n _ => (s.n + 5 - n).toNat, ⟨by omega, by omega, x6⟩, ?_⟩, fun hk => ⟨(len_spec (ht5.ext x6)).mono ?_⟩⟩
  · rintro _ n w7 ⟨n0, n1, x7⟩
    refine ⟨fun hn => ⟨(told_spec (ht5.ext x7) (hT.ext (x15.trans x7)) ha (by omega) n (by omega)).mono ?_⟩, fun hn => ⟨fun i w' => 0 ≤ i ∧ i ≤ as_.n ∧ Ext w5 w', fun i _ => (as_.n - i).toNat, ⟨by omega, by omega, x7⟩, ?_⟩⟩
    · rintro e w8 ⟨rfl, x8⟩
      exact ⟨_, rfl, fun h => (by cases h), fun _ => ⟨⟨by (first | (rw [wrap_i64 (by omega) (by omega)]; omega) | (dsimp only; rw [wrap_i64 (by omega) (by omega)]; omega) | (dsimp only; omega)), by (first | (rw [wrap_i64 (by omega) (by omega)]; omega) | (dsimp only; rw [wrap_i64 (by omega) (by omega)]; omega) | (dsimp only; omega)), x7.trans x8⟩, by (first | (rw [wrap_i64 (by omega) (by omega)]; omega) | (dsimp only; rw [wrap_i64 (by omega) (by omega)]; omega) | (dsimp only; omega))⟩⟩
    · rintro _ i w8 ⟨i0, i1, x8⟩
      refine ⟨fun hi => ⟨fun h100 => ?_, fun h100 => ⟨⟨by (first | (rw [wrap_i64 (by omega) (by omega)]; omega) | (dsimp only; rw [wrap_i64 (by omega) (by omega)]; omega) | (dsimp only; omega)), by (first | (rw [wrap_i64 (by omega) (by omega)]; omega) | (dsimp only; rw [wrap_i64 (by omega) (by omega)]; omega) | (dsimp only; omega)), x8⟩, by (first | (rw [wrap_i64 (by omega) (by omega)]; omega) | (dsimp only; rw [wrap_i64 (by omega) (by omega)]; omega) | (dsimp only; omega))⟩⟩, fun hi => ⟨⟨by (first | (rw [wrap_i64 (by omega) (by omega)]; omega) | (dsimp only; rw [wrap_i64 (by omega) (by omega)]; omega) | (dsimp only; omega)), by (first | (rw [wrap_i64 (by omega) (by omega)]; omega) | (dsimp only; rw [wrap_i64 (by omega) (by omega)]; omega) | (dsimp only; omega)), x8⟩, by (first | (rw [wrap_i64 (by omega) (by omega)]; omega) | (dsimp only; rw [wrap_i64 (by omega) (by omega)]; omega) | (dsimp only; omega))⟩⟩
      obtain ⟨i, rfl⟩ : ∃ j : Nat, i = j := ⟨i.toNat, by omega⟩
      obtain ⟨q, hqi⟩ : ∃ q, qs[i]? = some q := ⟨_, List.getElem?_eq_getElem (by omega)⟩
      obtain ⟨p, hp, c0, _⟩ := (hQ.ext (x5.trans x8)).at_ i q hqi
      refine ⟨i0, hi, p, hp, _, c0, ⟨(told_spec (ht5.ext x8) (hT.ext (x15.trans x8)) ha (by omega) q.a (hq.a q (List.mem_of_getElem? hqi)).2).mono ?_⟩⟩
      rintro e w9 ⟨rfl, x9⟩
      exact ⟨_, rfl, fun h => (by cases h), fun _ => ⟨⟨by (first | (rw [wrap_i64 (by omega) (by omega)]; omega) | (dsimp only; rw [wrap_i64 (by omega) (by omega)]; omega) | (dsimp only; omega)), by (first | (rw [wrap_i64 (by omega) (by omega)]; omega) | (dsimp only; rw [wrap_i64 (by omega) (by omega)]; omega) | (dsimp only; omega)), x8.trans x9⟩, by (first | (rw [wrap_i64 (by omega) (by omega)]; omega) | (dsimp only; rw [wrap_i64 (by omega) (by omega)]; omega) | (dsimp only; omega))⟩⟩
  · rintro e _ ⟨rfl, rfl⟩
    refine ⟨_, rfl, rb ?_, x5.trans x6⟩
    rw [List.length_map]
    simp only [beq_iff_eq]
    omega
end Go.Proofs.Ytiljdcopkgmcbaa.V
