/-
  Law FlowOver.
-/
import Derived.Test.YtilaeefmfiihlaaFlc
import Derived.Test.YtilaeefmfiihlaaFle
namespace Go.Proofs.Ytilaeefmfiihlaa.V
open Go Go.RowKit
set_option linter.unusedVariables false
set_option linter.unusedSimpArgs false
set_option maxRecDepth 100000

set_option maxHeartbeats 1000000 in
theorem flowover_walk (w : World) (v0 v1 : Value) (x0 : (Par.one (.sl 24 InsR)).T) (x1 : (Par.one (.sl 8 (.cons (.int .i64) .nil))).T) (h0 : (Par.one (.sl 24 InsR)).Is w v0 x0) (h1 : (Par.one (.sl 8 (.cons (.int .i64) .nil))).Is w v1 x1) :
    Calls Try.prog 6 #[v0, v1] w fun e w' => e = .returned (.bool true) ∧ Ext w w' := by
  obtain ⟨rfl, hcap, c0, hc⟩ := is_code h0
  obtain ⟨code, ls⟩ := x0
  obtain ⟨rfl, hpc, hpb, hpn, ps, hps, hpk⟩ := is_ints h1
  obtain ⟨pairs, ls1⟩ := x1
  dsimp only at *
  refine vc_6 code pairs _ _ ?_
  have hpsn := hps.leni
  simp only [eq_self, false_or, or_false, true_and, and_true, decide_eq_true_eq, decide_eq_false_iff_not, gd_st, gd_sf, exists_eq_left', exists_eq_left, Option.some.injEq, Sl.eta, Nat.reduceLeDiff, Int.reduceLE, Int.reduceLT, Int.reduceEq, Int.reduceNe, Nat.reduceMul, Nat.reduceAdd, Nat.reduceSub, Int.toNat_natCast, beq_iff_eq, bne_iff_ne, beq_eq_false_iff_ne, bne_eq_false_iff_eq, pick_and, pick_or, Bool.and_eq_true, Bool.or_eq_true, Bool.and_eq_false_iff, Bool.or_eq_false_iff, ne_eq, not_false_eq_true, Bool.not_eq_true', Bool.not_eq_false', reduceCtorEq, Nat.le_refl, Nat.zero_mul, Nat.mul_one, Nat.zero_add, Int.reduceToNat, ones, one, add_mk, Decidable.not_not, cond_true, cond_false, true_implies, false_implies, implies_true, Bool.not_true, Bool.not_false]
  refine ⟨(shown_spec w).mono ?_⟩
  rintro e w1 ⟨rfl, x1⟩
  refine ⟨_, rfl, ⟨(cut_spec (hc.ext x1) hcap).mono ?_⟩⟩
  rintro e w2 ⟨s, rfl, hs, hscap, hsa, rfl⟩
  obtain ⟨c, rfl⟩ : ∃ c, c = c0.take 40 := ⟨_, rfl⟩
  have hm : (c0.take 40).length ≤ 40 := by rw [List.length_take]; omega
  generalize c0.take 40 = c at *
  have hsn := hs.lenc
  refine ⟨s, rfl, ⟨(new_spec hs (by omega)).mono ?_⟩⟩
  rintro e w3 ⟨g, rfl, G3, x3⟩
  refine ⟨_, rfl, fun _ => ⟨fun h => (by cases h), fun _ => ?_⟩, fun h => (by cases h)⟩
  have x03 := x1.trans x3
  refine ⟨fun n w' => ∃ k : Nat, n = (k : Nat) ∧ k ≤ 40 ∧ Ext w3 w', fun n _ => (40 - n).toNat, ⟨0, rfl, Nat.zero_le _, Ext.refl _⟩, ?_⟩
  rintro _ n w5 ⟨k, rfl, hk, x5⟩
  have ek : IntKind.i64.wrap ((k : Int) + 1) = ((k + 1 : Nat) : Int) := by rw [wrap_i64 (by omega) (by omega)]; omega
  rw [ek]
  simp only [Int.toNat_natCast]
  refine ⟨fun hlt => ⟨fun hlt2 w6 q6 => ?_, fun _ => x03.trans x5⟩, fun _ => x03.trans x5⟩
  have x6 := x5.trans q6.ext
  have rd := hps.ext (x03.trans x6)
  obtain ⟨p, a, hp, ha, hca⟩ := rd.intl k (by omega)
  obtain ⟨p', b, hp', hb, hcb⟩ := rd.intl (k + 1) (by omega)
  rw [hp] at hp'; injection hp' with hp'; subst hp'
  rw [Nat.mul_one] at hca hcb
  have ka : ∀ w', Upd (fun _ => False) w6 w' → w'.cell? (p.add k) = some (.int .i64 a) := fun w' u => u.cell hca id
  have kb : ∀ w', Upd (fun _ => False) w6 w' → w'.cell? (p.add (k + 1)) = some (.int .i64 b) := fun w' u => u.cell hcb id
  refine ⟨fun _ => False, by omega, by omega, p, hp, a, ka, by omega, by omega, p, hp, b, kb, by omega, by omega, p, hp, a, ka, by omega, by omega, p, hp, b, kb, ⟨(over_spec (G3.ext x6) (by omega) a b).mono ?_⟩⟩
  rintro e w7 ⟨rfl, rfl⟩
  refine ⟨_, rfl, Upd.refl _ _, ⟨(rover_spec (hs.ext (x3.trans x6)) (by omega) a b).mono ?_⟩⟩
  rintro e w8 ⟨rfl, x8⟩
  refine ⟨_, rfl, fun hne => absurd rfl hne, fun _ => ⟨⟨k + 1, rfl, by omega, x6.trans x8⟩, by omega⟩⟩
end Go.Proofs.Ytilaeefmfiihlaa.V
