/-
  Law LebOne: the walk.
-/
import Derived.Test.YtbkoagepkjpalaaLebO
import Derived.Test.YtbkoagepkjpalaaLebA
import Derived.Test.YtbkoagepkjpalaaVc4
namespace Go.Proofs.Ytbkoagepkjpalaa.V
open Go Go.RowKit
set_option linter.unusedVariables false
set_option linter.unusedSimpArgs false

theorem lebone_tail (s : Sl) (xs : List Nat) (n z k : Nat) (w : World) (hr : Rd w 1 s (bv xs)) (hl : s.n ≤ 140737488354000) (h8 : ∀ x ∈ xs, x < 256)
    (hp : parse xs 0 0 = some (some (n, z))) (hk : k < z) (hz : z ≤ s.n) :
    Calls Try.prog 20 #[.slice s.a k s.c] w fun e w1 => ∃ g sl, e = .returned (.pointer (some ⟨g, 0, none⟩)) ∧ Rdr w1 w.heap.size g (xs.take k) ⟨0, 0, 0⟩ sl ∧ Ext w w1 ∧
      (RS.int (xs.take k) ⟨0, 0, 0⟩) = (0, ⟨0, k, 2⟩) := by
  have hxl := hr.lenb
  refine (newreader_spec ⟨s.a, k, s.c⟩ (xs.take k) w (by rw [← bv_take]; exact hr.take (by omega)) (by dsimp only; omega) (fun x hx => h8 x (List.mem_of_mem_take hx))).mono ?_
  rintro e w1 ⟨g, sl, rfl, hrd, hx⟩
  refine ⟨g, sl, rfl, hrd, hx, ?_⟩
  have := parse_cut xs 0 0 n z k hp (by omega)
  have hu : RS.uint (xs.take k) ⟨0, 0, 0⟩ 0 0 = (0, ⟨0, k, 2⟩) := by
    unfold RS.uint
    simp only [List.drop_zero, this, RS.fail]
    simp [hxl]
    omega
  unfold RS.int
  rw [hu]
  simp [unfold_]

theorem lebone_spec (s : Sl) (xs : List Nat) (i : Int) (w : World) (hr : Rd w 1 s (bv xs)) (hl : s.n ≤ 140737488354000) (hc : s.n ≤ s.c) (h8 : ∀ x ∈ xs, x < 256) (h0 : -9223372036854775808 ≤ i) (h1 : i ≤ 9223372036854775807) :
    Calls Try.prog 5 #[.slice s.a s.n s.c, .int .i64 i] w fun e w' => e = .returned (.bool true) ∧ Ext w w' := by
  have hxl := hr.lenb
  refine vc_5 _ _ _ _ ?_
  simp only [eq_self, true_and, and_true, decide_eq_true_eq, decide_eq_false_iff_not, gd_st, gd_sf, exists_eq_left', exists_eq_left, Option.some.injEq, Sl.eta, Nat.reduceLeDiff, Int.reduceLE, Int.reduceLT, Int.reduceEq, Int.reduceNe, Nat.reduceMul, Nat.reduceAdd, Nat.reduceSub, Int.toNat_natCast, beq_iff_eq, bne_iff_ne, beq_eq_false_iff_ne, bne_eq_false_iff_eq, pick_and, pick_or, Bool.and_eq_true, Bool.or_eq_true, Bool.and_eq_false_iff, Bool.or_eq_false_iff, ne_eq, not_false_eq_true, Bool.not_eq_true', Bool.not_eq_false', reduceCtorEq, Nat.le_refl, Nat.zero_mul, Nat.mul_one, Nat.zero_add, Int.reduceToNat, ones, one, add_mk, Decidable.not_not, cond_true, cond_false, true_implies, false_implies, implies_true, Bool.not_true, Bool.not_false]
  refine ⟨(shown_spec w).mono ?_⟩
  rintro e w1 ⟨rfl, x1⟩
  refine ⟨_, rfl, ⟨(newreader_spec s xs w1 (hr.ext x1) (by omega) h8).mono ?_⟩⟩
  rintro e w2 ⟨g, sl, rfl, hrd, x2⟩
  refine ⟨_, rfl, fun _ => ⟨fun h => by simp at h, fun _ => ⟨(uint_spec 0 0 hrd).mono ?_⟩⟩, fun h => by simp at h⟩
  rintro e w3 ⟨rfl, hrd3, u3⟩
  refine ⟨_, rfl, ⟨(fault_spec hrd3).mono ?_⟩⟩
  rintro e w4 ⟨rfl, q4⟩
  refine ⟨_, _, rfl, ⟨(at_spec (hrd3.ext q4.ext)).mono ?_⟩⟩
  rintro e w5 ⟨rfl, q5⟩
  have x5 : Ext w w5 := (((x1.trans x2).fresh u3 (by rintro k rfl; exact Nat.le_trans x1.size hrd.base)).trans q4.ext).trans q5.ext
  refine ⟨_, rfl, ?_⟩
  have hu : RS.uint xs ⟨0, 0, 0⟩ 0 0 = match parse xs 0 0 with
    | none => (0, ⟨0, xs.length, 2⟩) | some none => (0, ⟨0, 0, 4⟩) | some (some (n, z)) => (n, ⟨z, 0, 0⟩) := by
    unfold RS.uint
    simp only [List.drop_zero, RS.fail]
    rcases parse xs 0 0 with _ | _ | ⟨n, z⟩ <;> simp
  rw [hu]
  rcases hp : parse xs 0 0 with _ | _ | ⟨n, z⟩
  · exact ⟨fun _ => ⟨fun _ => ⟨fun _ => ⟨fun h => (h rfl).elim, fun _ => x5⟩, fun h => (h rfl).elim⟩, fun h => (h rfl).elim⟩, fun h => by simp at h⟩
  · exact ⟨fun _ => ⟨fun _ => ⟨fun _ => ⟨fun _ => ⟨rfl, x5⟩, fun h => by simp at h⟩, fun h => (h rfl).elim⟩, fun h => (h rfl).elim⟩, fun h => by simp at h⟩
  · obtain ⟨m, hm, hz0, hz1, ht, _⟩ := parse_form xs 0 0 n z h8 hp
    have hnm : n = m := by simpa using hm
    subst hnm
    have hlt := parse_lt xs 0 0 n z (by simp) (by omega) hp
    refine ⟨fun h => (h rfl).elim, fun _ => ⟨(put_spec ⟨none, 0, 0⟩ [] n w5 (Rd.nil _ _ _ _) hlt (by decide)).mono ?_⟩⟩
    rintro e w6 ⟨r, rfl, o6, x6⟩
    rw [List.nil_append] at o6
    have x6' := x5.trans x6
    have kz : Rd w6 1 ⟨s.a, z, s.c⟩ (bv (form n)) := by
      rw [← ht, Nat.sub_zero, ← bv_take]; exact (hr.ext x6').take (by omega)
    simp only [cut0, Int.toNat_natCast]
    refine ⟨r, rfl, fun _ => ⟨fun _ => ⟨_, fun w' q => (o6.ext q.ext).rd.text tab_ok rfl rfl rfl, by omega, by omega, _, fun w' q => (kz.ext q.ext).text tab_ok rfl rfl rfl, fun w7 q7 => ⟨fun h => (h rfl).elim, fun _ => ?_⟩⟩, ?_⟩, ?_⟩
    · have fin : ∀ v : Int, 0 ≤ v → v < (z : Int) → CallW Try.prog 20 #[.slice s.a v.toNat s.c] w7 fun e w8 => ∃ a : Option Addr, e = .returned (.pointer a) ∧
          (a.isNone = true → Ending.returned (.bool false) = .returned (.bool true) ∧ Ext w w8) ∧
          (a.isNone = false → CallW Try.prog 24 #[.pointer a] w8 fun e w9 => ∃ n : Int, e = .returned (.int .i64 n) ∧
            CallW Try.prog 22 #[.pointer a] w9 fun e wa => ∃ n4 n5 : Int, e = .returned (.tuple #[.int .i64 n4, .int .i64 n5]) ∧
              (n = 0 → (n5 = 2 → ¬ (z : Int) = 0 ∧ Ending.returned (.bool (n4 == v)) = .returned (.bool true) ∧ Ext w wa) ∧ (¬ n5 = 2 → Ending.returned (.bool false) = .returned (.bool true) ∧ Ext w wa)) ∧
              (¬ n = 0 → Ending.returned (.bool false) = .returned (.bool true) ∧ Ext w wa)) := by
        intro v hv0 hv1
        obtain ⟨k, rfl⟩ := Int.eq_ofNat_of_zero_le hv0
        have x7 := x6'.trans q7.ext
        rw [Int.toNat_natCast]
        refine ⟨(lebone_tail s xs n z k w7 (hr.ext x7) hl h8 hp (by omega) (by omega)).mono ?_⟩
        rintro e w8 ⟨g2, sl2, rfl, hrd8, x8, hi⟩
        refine ⟨_, rfl, fun h => by simp at h, fun _ => ⟨(int_spec hrd8).mono ?_⟩⟩
        rintro e w9 ⟨rfl, hrd9, u9⟩
        refine ⟨_, rfl, ⟨(fault_spec hrd9).mono ?_⟩⟩
        rintro e wa ⟨rfl, qa⟩
        have xa : Ext w wa := ((x7.trans x8).fresh u9 (by rintro j rfl; exact Nat.le_trans x7.size hrd8.base)).trans qa.ext
        rw [hi]
        exact ⟨_, _, rfl, fun _ => ⟨fun _ => ⟨by omega, by simp, xa⟩, fun h => (h rfl).elim⟩, fun h => (h rfl).elim⟩
      have hz3 : (0 : Int) < z := by omega
      refine ⟨fun hi => ?_, fun hi => ?_⟩
      · have e1 : IntKind.i64.wrap (0 - IntKind.i64.wrap (i + 1)) = -(i + 1) := by
          rw [wrap_i64 (n := i + 1) (by omega) (by omega), wrap_i64 (by omega) (by omega)]; omega
        rw [e1]
        have b0 : 0 ≤ (-(i + 1)).tmod (z : Int) := Int.tmod_nonneg _ (by omega)
        have b1 : (-(i + 1)).tmod (z : Int) < z := Int.tmod_lt_of_pos _ hz3
        exact ⟨by omega, b0, by omega, fin _ b0 b1⟩
      · have b0 : 0 ≤ i.tmod (z : Int) := Int.tmod_nonneg _ (by omega)
        have b1 : i.tmod (z : Int) < z := Int.tmod_lt_of_pos _ hz3
        exact ⟨by omega, b0, by omega, fin _ b0 b1⟩
    · intro h; omega
    · intro h; omega
end Go.Proofs.Ytbkoagepkjpalaa.V
