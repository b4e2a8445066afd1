/-
  All: gone through by any body.
-/
import Derived.Test.YtcmmdaginkhomaaAr18
namespace Go.Proofs.Ytcmmdaginkhomaa.V
open Go Go.RowKit
set_option linter.unusedVariables false
set_option linter.unusedSimpArgs false
set_option maxRecDepth 100000

theorem YieldW.mono {P : Program} {l : Nat} {args : Array Value} {w : World} {R R' : Bool → World → Prop} (h : YieldW P l args w R) (hR : ∀ b w', R b w' → R' b w') : YieldW P l args w R' := by
  obtain ⟨fn, tmps, assign, body, hy, hb⟩ := h.h
  exact ⟨⟨fn, tmps, assign, body, hy, hb.mono fun e w' ⟨b, he, hr⟩ => ⟨b, he, hR _ _ hr⟩⟩⟩
theorem all1_spec {c g l : Nat} (I : Nat → World → Prop) (Post : World → Prop)
    (hI : ∀ (at_ : Nat) (W : World), I at_ W → at_ ≤ 131072 ∧ Blk W c 32 [.pointer (some ⟨g, 0, none⟩)] ∧ ∃ b A, ArW 92 W b g A ∧ ∀ W', Ext W W' →
      (stT A A.use (at_ + 1) = none → Post W') ∧ ∀ h, stT A A.use (at_ + 1) = some h → YieldW Try.prog l #[.int .u64 (at_ + 1 : Nat), hdV h] W' fun b W2 => (b = false → Post W2) ∧
        (b = true → I (at_ + h.l.toNat + 2) W2 ∧ ∃ S, Upd S W' W2 ∧ ∀ k, S k → k < W.heap.size))
    {w : World} {b0 : Nat} {A0 : Ar} (h0 : ArW 92 w b0 g A0) (hw : I A0.use.f w) :
    Calls Try.prog 42 #[.func (.yield l) #[] #[], .pointer (some ⟨c, 0, none⟩)] w fun e w' => e = .returned (.tuple #[]) ∧ Post w' := by
  refine vc_42 _ _ _ _ ?_
  have hc0 := (hI _ _ hw).2.1
  simp only [eq_self, false_or, or_false, true_and, and_true, decide_eq_true_eq, decide_eq_false_iff_not, gd_st, gd_sf, exists_eq_left', exists_eq_left, Option.some.injEq, Sl.eta, Nat.reduceLeDiff, Int.reduceLE, Int.reduceLT, Int.reduceEq, Int.reduceNe, Nat.reduceMul, Nat.reduceAdd, Nat.reduceSub, Int.toNat_natCast, beq_iff_eq, bne_iff_ne, beq_eq_false_iff_ne, bne_eq_false_iff_eq, pick_and, pick_or, Bool.and_eq_true, Bool.or_eq_true, Bool.and_eq_false_iff, Bool.or_eq_false_iff, ne_eq, not_false_eq_true, Bool.not_eq_true', Bool.not_eq_false', reduceCtorEq, Nat.le_refl, Nat.zero_mul, Nat.mul_one, Nat.zero_add, Int.reduceToNat, ones, one, add_mk, Decidable.not_not, cond_true, cond_false, true_implies, false_implies, implies_true, Bool.not_true, Bool.not_false]
  refine ⟨_, hc0.cell 0, _, rfl, _, h0.hd.cell 2, fun n w' => ∃ k : Nat, n = k ∧ I k w', fun n _ => (131072 - n).toNat, ⟨_, rfl, hw⟩, ?_⟩
  rintro _ n w1 ⟨k, rfl, hk⟩
  obtain ⟨hk1, hc1, b1, A1, a1, hy⟩ := hI k w1 hk
  have hi := a1.ok.useIn
  have hn := a1.ok.n
  have er : IntKind.u64.wrap (IntKind.u64.wrap (k : Int) + 1) = ((k + 1 : Nat) : Int) := by
    rw [wrap_u64 (n := (k : Int)) (by omega) (by omega), wrap_u64 (by omega) (by omega)]; omega
  rw [er]
  refine ⟨fun a b w' => ∃ q, a = some ⟨q, 0, none⟩ ∧ w1.heap.size ≤ q ∧ b = (stT A1 A1.use (k + 1)).isSome ∧ HB w' q ((stT A1 A1.use (k + 1)).getD hd0) ∧ Ext w1 w', fun w2 q2 => ?_, ?_⟩
  · have x2 := q2.ext
    have c2 := hc1.ext x2
    have a2 := a1.ext x2
    have lc := c2.lt
    have lg := a2.hd.lt
    refine ⟨fun k => w2.heap.size ≤ k, _, fun w' u => (c2.upd u (by omega)).cell 0, _, fun w' u => (c2.upd u (by omega)).cell 0, _, rfl, _, _, rfl, fun w' u => ⟨(a2.hd.upd u (by omega)).cell 2, (a2.hd.upd u (by omega)).cell 3⟩, ⟨(in_spec a2 (s := A1.use) hi.2.1 hi.2.2 (r := k + 1) (by omega)).mono ?_⟩, fun w3 n3 => ⟨n3.ext.toS, ⟨(in_spec (a2.ext n3.ext) (s := A1.use) hi.2.1 hi.2.2 (r := k + 1) (by omega)).mono ?_⟩⟩⟩
    · rintro e w3 ⟨rfl, x3⟩
      have z3 := x3.size
      have z2 := x2.size
      refine ⟨_, _, _, _, _, rfl, x3.toS, fun w4 n4 => ⟨n4.ext.toS, rfl, HB.can n4, fun w5 s5 => ⟨s5.upd.mono fun i _ hn e => hn (by dsimp only at e; omega), ?_⟩⟩⟩
      obtain ⟨b5, y5⟩ := HB.made n4 s5
      exact ⟨_, rfl, by omega, rfl, b5, (x2.trans x3).trans y5⟩
    · rintro e w4 ⟨rfl, x4⟩
      have z2 := x2.size
      have b4 := (Blk.new n3).ext x4
      refine ⟨_, _, _, _, _, rfl, x4.toS, rfl, b4.canSetN 0 4 (by simp), fun w5 s5 => ⟨s5.upd.mono fun i _ hn e => hn (by dsimp only at e; omega), ?_⟩⟩
      have b5 : HB w5 w2.heap.size ((stT A1 A1.use (k + 1)).getD hd0) := HB.set b4 s5
      exact ⟨_, rfl, by omega, rfl, b5, x2.trans ((n3.ext.trans x4).fresh s5.upd (by rintro i rfl; exact Nat.le_refl _))⟩
  · rintro _ a b w2 ⟨q, rfl, hq, rfl, hb, x2⟩
    cases hst : stT A1 A1.use (k + 1) with
    | none => exact ⟨fun h => (by cases h), fun _ => (hy w2 x2).1 hst⟩
    | some h =>
      rw [hst] at hb
      have hb' : HB w2 q h := hb
      have hin := stT_in hst
      have hl0 := hin.2.1.2.2.1
      have hl1 := hin.2.1.le
      refine ⟨fun _ => ⟨_, rfl, _, _, _, _, rfl, ⟨hb'.cell 0, hb'.cell 1, hb'.cell 2, hb'.cell 3⟩, ((hy w2 x2).2 h hst).mono ?_⟩, fun h => (by cases h)⟩
      rintro b w3 ⟨h1, h2⟩
      refine ⟨h1, fun hbt => ?_⟩
      obtain ⟨h3, S, u, hS⟩ := h2 hbt
      have hb3 := hb'.upd u fun hh => by have := hS _ hh; omega
      have ek : IntKind.i64.wrap ((k : Int) + IntKind.i64.wrap (h.l + 2)) = ((k + h.l.toNat + 2 : Nat) : Int) := by
        rw [wrap_i64 (n := h.l + 2) (by omega) (by omega), wrap_i64 (by omega) (by omega)]; omega
      refine ⟨_, rfl, _, hb3.cell 2, ⟨_, ek, h3⟩, ?_⟩
      rw [ek]
      dsimp only
      omega
end Go.Proofs.Ytcmmdaginkhomaa.V
