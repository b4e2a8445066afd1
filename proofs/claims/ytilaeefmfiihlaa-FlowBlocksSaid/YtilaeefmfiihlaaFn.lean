/-
  Law FlowNext.
-/
import Derived.Test.YtilaeefmfiihlaaFlc
import Derived.Test.YtilaeefmfiihlaaFle
namespace Go.Proofs.Ytilaeefmfiihlaa.V
open Go Go.RowKit
set_option linter.unusedVariables false
set_option linter.unusedSimpArgs false
set_option maxRecDepth 100000

theorem Rd.upd0 {w w' : World} {S : Nat → Prop} {z : Nat} {s : Sl} {xs : List Value} (h : Rd w z s xs) (k : Upd S w w') (hS : 0 < s.n → s.off S) : Rd w' z s xs :=
  ⟨h.1, fun hn => by obtain ⟨p, hp, hc⟩ := h.2 hn; exact ⟨p, hp, fun j v hj => k.cell (hc j v hj) (by rw [block_add]; exact hS hn p hp)⟩⟩
theorem nextT_le2 (c : List Ins) (x : Int) : (nextT c x).length ≤ 2 := by
  unfold nextT
  split
  · rw [castL_len]; exact nxT_le2 _ _
  · exact Nat.zero_le _
theorem Own.lentR {w : World} {B : Nat} {e oc n : Nat} {oa : Option Addr} {c : List Ins} (h : Own w B e 3 ⟨oa, n + 1, oc⟩ (cdV (c ++ [m7]))) (hn : n = c.length) : Rd w 3 ⟨oa, n, oc⟩ (cdV c) := by
  have := (h.short (m := n) (by dsimp only; omega)).rd
  dsimp only at this
  rw [cdV_append, List.take_left' (by rw [cdV_len]; omega)] at this
  exact this
set_option maxHeartbeats 1000000 in
theorem flownext_walk (w : World) (v0 v1 : Value) (x0 : (Par.one (.sl 24 InsR)).T) (xa : (Par.one (.int .i64)).T) (h0 : (Par.one (.sl 24 InsR)).Is w v0 x0) (h1 : (Par.one (.int .i64)).Is w v1 xa) :
    Calls Try.prog 4 #[v0, v1] w fun e w' => e = .returned (.bool true) ∧ Ext w w' := by
  obtain ⟨rfl, hcap, c0, hc⟩ := is_code h0
  obtain ⟨code, ls⟩ := x0
  obtain ⟨rfl, _⟩ : v1 = .int .i64 xa ∧ _ := by simpa only [Par.Is, Dt.Is] using h1
  dsimp only at *
  refine vc_4 code _ _ _ ?_
  simp only [eq_self, false_or, or_false, true_and, and_true, decide_eq_true_eq, decide_eq_false_iff_not, gd_st, gd_sf, exists_eq_left', exists_eq_left, Option.some.injEq, Sl.eta, Nat.reduceLeDiff, Int.reduceLE, Int.reduceLT, Int.reduceEq, Int.reduceNe, Nat.reduceMul, Nat.reduceAdd, Nat.reduceSub, Int.toNat_natCast, beq_iff_eq, bne_iff_ne, beq_eq_false_iff_ne, bne_eq_false_iff_eq, pick_and, pick_or, Bool.and_eq_true, Bool.or_eq_true, Bool.and_eq_false_iff, Bool.or_eq_false_iff, ne_eq, not_false_eq_true, Bool.not_eq_true', Bool.not_eq_false', reduceCtorEq, Nat.le_refl, Nat.zero_mul, Nat.mul_one, Nat.zero_add, Int.reduceToNat, ones, one, add_mk, Decidable.not_not, cond_true, cond_false, true_implies, false_implies, implies_true, Bool.not_true, Bool.not_false]
  refine ⟨(shown_spec w).mono ?_⟩
  rintro e w1 ⟨rfl, x1⟩
  refine ⟨_, rfl, ⟨(cut_spec (hc.ext x1) hcap).mono ?_⟩⟩
  rintro e w2 ⟨s, rfl, hs, hscap, hsa, rfl⟩
  obtain ⟨c, rfl⟩ : ∃ c, c = c0.take 40 := ⟨_, rfl⟩
  have hm : (c0.take 40).length ≤ 40 := by rw [List.length_take]; omega
  generalize c0.take 40 = c at *
  have hsn := hs.lenc
  refine ⟨s, rfl, ⟨(lent_spec hs (by omega)).mono ?_⟩⟩
  rintro e w3 ⟨oa, oc, rfl, o3, x3⟩
  have x03 := x1.trans x3
  have z3 := x3.size
  have hoff : 0 < s.n → ∀ p q, oa = some p → s.a = some q → q.block ≠ p.block := fun h0 p q hp hq e => by
    obtain ⟨q', hq', h1⟩ := hs.block (by decide) h0
    rw [hq] at hq'; injection hq' with hq'; subst hq'
    have h2 := (o3.base p hp).1
    omega
  refine ⟨⟨oa, s.n, oc⟩, rfl, fun n w' => ∃ k : Nat, n = (k : Int) - 1 ∧ k ≤ s.n + 2 ∧ Ext w3 w', fun n _ => (s.n + 1 - n).toNat, ⟨0, rfl, Nat.zero_le _, Ext.refl _⟩, ?_⟩
  rintro _ n w4 ⟨k, rfl, hk, x4⟩
  have ek : IntKind.i64.wrap ((k : Int) - 1 + 1) = ((k + 1 : Nat) : Int) - 1 := by rw [wrap_i64 (by omega) (by omega)]; omega
  rw [ek]
  have o4 := o3.ext x4
  have hs4 := hs.ext (x3.trans x4)
  refine ⟨fun hle => ⟨(next_spec (o4.lentR hsn) (by omega) _).mono ?_⟩, fun hgt => ⟨(next_spec (o4.lentR hsn) (by omega) _).mono ?_⟩⟩
  · rintro e w5 ⟨s5, rfl, o5, x5⟩
    refine ⟨s5, rfl, ⟨(rnext_spec (hs4.ext x5) (by omega) _).mono ?_⟩⟩
    rintro e w6 ⟨s6, rfl, o6, x6⟩
    refine ⟨s6, rfl, ⟨(equal_spec (o5.ext x6).rd o6.rd (by have := nextT_le2 c ((k : Int) - 1); omega)).mono ?_⟩⟩
    rintro e w7 ⟨rfl, x7⟩
    have x47 := (x5.trans x6).trans x7
    have z5 := x5.size
    have z6 := x6.size
    have z7 := x7.size
    have l2 := nextT_le2 c ((k : Int) - 1)
    have hl5 := o5.rd.leni
    refine ⟨_, rfl, fun hb => absurd rfl (of_decide_eq_false hb), fun _ w8 n8 => ?_⟩
    have z8 := n8.size
    have rd : Rd w8 1 ⟨some ⟨w7.heap.size, 0, none⟩, 2, 2⟩ (iv [-1, -1]) := (Blk.new n8).rd (z := 1) (o := 0) (n := 2) (c := 2) (by simp)
    obtain ⟨s9, w9, hr, hrn, o9, u9, _⟩ := (((o5.ext x6).ext x7).ext n8.ext).append (t := 30) (ty := 30) tab_ok (by rfl) (by rfl) (by decide) rd (iv_ones _) (by dsimp only; omega) (by dsimp only; omega) (by omega)
    have x49 : Ext w4 w9 := (x47.trans n8.ext).fresh u9 (by rintro j ⟨q, hq, rfl⟩; exact (o5.base q hq).1)
    dsimp only at hrn
    refine ⟨s9, w9, hr, fun n w' => ∃ (j : Nat) (xs : List Value), n = (j : Nat) ∧ j ≤ s9.n ∧ Own w' w4.heap.size 3 1 s9 xs ∧ Ext w4 w', fun n _ => (s9.n - n).toNat, ⟨0, _, rfl, Nat.zero_le _, o9, x49⟩, ?_⟩
    rintro _ n w10 ⟨j, xs, rfl, hj, o10, x10⟩
    have ej : IntKind.i64.wrap ((j : Int) + 1) = ((j + 1 : Nat) : Int) := by rw [wrap_i64 (by omega) (by omega)]; omega
    rw [ej]
    refine ⟨fun hlt => ?_, fun _ => ⟨⟨k + 1, rfl, by omega, x4.trans x10⟩, by dsimp only; omega⟩⟩
    obtain ⟨p, hp, _⟩ := o10.rd.2 (by omega)
    rw [Int.toNat_natCast]
    refine ⟨by omega, by omega, p, hp, o10.canAt hp (by omega), fun w11 s11 => ?_⟩
    obtain ⟨o11, u11⟩ := o10.setAt hp (by omega) s11
    exact ⟨⟨j + 1, _, rfl, by omega, o11, x10.fresh u11 (by rintro j rfl; exact (o10.base p hp).1)⟩, by dsimp only; omega⟩
  · rintro e w5 ⟨s5, rfl, o5, x5⟩
    have o5' := o4.ext x5
    have hs5 := hs4.ext x5
    refine ⟨s5, rfl, ⟨(kept_spec (code := s) o5' hs5 hoff (by omega)).mono ?_⟩⟩
    rintro e w6 ⟨rfl, u6⟩
    have hne : ∀ p, s5.a = some p → ¬ ∃ p', oa = some p' ∧ p.block = p'.block := by
      rintro p hp ⟨p', hp', e⟩
      have h1 := (o5.base p hp).1
      have h2 := (o4.base p' hp').2
      omega
    have o56 := o5.upd u6 hne
    have hs6 : Rd w6 3 s (cdV c) := hs5.upd0 u6 fun h0 q hq => by
      rintro ⟨p, hp, e⟩
      exact hoff h0 p q hp hq e
    refine ⟨_, rfl, fun _ => ⟨fun _ => ⟨(rnext_spec hs6 (by omega) _).mono ?_⟩, fun h => (by cases h)⟩, fun h => (by cases h)⟩
    rintro e w7 ⟨s7, rfl, o7, x7⟩
    refine ⟨s7, rfl, ⟨(equal_spec (o56.ext x7).rd o7.rd (by have := nextT_le2 c xa; omega)).mono ?_⟩⟩
    rintro e w8 ⟨rfl, x8⟩
    refine ⟨_, rfl, by rw [decide_eq_true rfl], ?_⟩
    have x36 : Ext w3 w5 := x4.trans x5
    have : Ext w w6 := (x03.trans x36).fresh u6 (by rintro j ⟨p, hp, rfl⟩; have := (o3.base p hp).1; have := x1.size; omega)
    exact (this.trans x7).trans x8
end Go.Proofs.Ytilaeefmfiihlaa.V
