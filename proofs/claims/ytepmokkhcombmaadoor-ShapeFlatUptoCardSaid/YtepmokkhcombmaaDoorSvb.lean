/-
  ShapeViews: its walk.
-/
import Derived.Test.YtepmokkhcombmaaDoorSva
import Derived.Test.YtepmokkhcombmaaDoorVcD
import Derived.Test.YtepmokkhcombmaaDoorSv6n
namespace Go.Proofs.YtepmokkhcombmaaDoor.V
open Go Go.RowKit
set_option linter.unusedVariables false
set_option linter.unusedSimpArgs false
set_option linter.unusedSectionVars false
set_option maxRecDepth 100000

theorem thk_nil (w : World) : ThK (Ext w) ⟨none, 0, 0⟩ [] := ⟨[], rfl, fun k a t h => (by simp at h), fun w' u => ⟨Rd.nil0 _ _, fun k a t h => (by simp at h)⟩⟩
theorem find_nil : findT [] = fun _ => ⟨[], []⟩ := rfl
theorem uv_at {w : World} {s : Sl} {l : List Nat} (h : Rd w 1 s (uv l)) {i : Nat} (hi : i < l.length) : ∃ p, s.a = some p ∧ w.cell? (p.add i) = some (.int .u64 ((l[i] : Nat) : Int)) := by
  have hl := h.len1
  unfold uv at hl
  rw [List.length_map] at hl
  obtain ⟨p, hp, hc⟩ := h.2 (by omega)
  exact ⟨p, hp, hc i _ (by unfold uv; rw [List.getElem?_map, List.getElem?_eq_getElem hi]; rfl)⟩
set_option maxHeartbeats 1000000 in
theorem shapeviews_walk (w : World) (L : Lay w) (v0 v1 : Value) (x0 : (Par.one (.sl 64 RowR)).T) (x1 : (Par.one (.sl 48 ThR)).T) (h0 : (Par.one (.sl 64 RowR)).Is w v0 x0) (h1 : (Par.one (.sl 48 ThR)).Is w v1 x1)
    (hbk : (Par.one (.sl 64 RowR)).bulk x0 + ((Par.one (.sl 48 ThR)).bulk x1 + 0) ≤ 1048576) :
    Calls Tryd.prog 3 #[v0, v1] w fun e w' => e = .returned (.bool true) ∧ Ext w w' := by
  obtain ⟨rfl, hR, okr⟩ := is_rows h0
  obtain ⟨rfl, hL, okt, -⟩ := is_things h1
  have D := dok_of okr okt hbk
  have hT := tbf L
  generalize x0.2.map rpOf = R at hR okr D
  generalize x1.2.map thOf = T at hL okt D
  refine vc_3 _ _ _ _ ?_
  simp only [eq_self, false_or, or_false, true_and, and_true, decide_eq_true_eq, decide_eq_false_iff_not, gd_st, gd_sf, exists_eq_left', exists_eq_left, Option.some.injEq, Sl.eta, Nat.reduceLeDiff, Int.reduceLE, Int.reduceLT, Int.reduceEq, Int.reduceNe, Nat.reduceMul, Nat.reduceAdd, Nat.reduceSub, Int.toNat_natCast, beq_iff_eq, bne_iff_ne, beq_eq_false_iff_ne, bne_eq_false_iff_eq, pick_and, pick_or, Bool.and_eq_true, Bool.or_eq_true, Bool.and_eq_false_iff, Bool.or_eq_false_iff, ne_eq, not_false_eq_true, Bool.not_eq_true', Bool.not_eq_false', reduceCtorEq, Nat.le_refl, Nat.zero_mul, Nat.mul_one, Nat.zero_add, Int.reduceToNat, ones, one, add_mk, Decidable.not_not, cond_true, cond_false, true_implies, false_implies, implies_true, Bool.not_true, Bool.not_false]
  refine ⟨(shown_spec hT).mono ?_⟩
  rintro e w1 ⟨rfl, y1⟩
  refine ⟨_, rfl, ⟨(viewed_spec (b := 0) (hR.mono fun w' u => y1.trans u) (hL.mono fun w' u => y1.trans u) D (by decide) (hT.ext y1)).mono ?_⟩⟩
  rintro e w2 ⟨qs, rfl, o2, y2⟩
  have y02 := y1.trans y2
  rw [of0] at o2 ⊢
  refine ⟨_, qs, rfl, ⟨(seen_spec (hR.mono fun w' u => y02.trans u) okr (hL.mono fun w' u => y02.trans u) D.lm D.okf D.obf D.bR).mono ?_⟩⟩
  rintro e w3 ⟨ls, rfl, o3, hl3, y3⟩
  have y03 := y02.trans y3
  refine ⟨_, ls, rfl, ⟨(seen_spec (hR.mono fun w' u => y03.trans u) okr (thk_nil w3) (Nat.zero_le _) (fun id c hc => by cases hc) (fun id => by show 64 + (0 + 0) ≤ _; decide) D.bR).mono ?_⟩⟩
  rintro e w4 ⟨ks, rfl, o4, hl4, y4⟩
  have y04 := y03.trans y4
  have n2 : qs.n = (seenT (findT T) R).2.length := by have := o2.rd.len1; unfold uv at this; rw [List.length_map] at this; exact this.symm
  have n3 : ls.n = (seenT (findT T) R).2.length := by have := o3.rd.len1; unfold uv at this; rw [List.length_map] at this; exact this.symm
  refine ⟨_, ks, rfl, fun _ => ⟨fun _ => ⟨fun _ => ?_, fun h => absurd (by rw [n2, n3]) h⟩, fun h => absurd rfl h⟩, fun h => (by cases h)⟩
  refine ⟨(lrows_spec (hR.mono fun w' u => y04.trans u) (fun w' u => u) D.rs).mono ?_⟩
  rintro e w5 ⟨rs, rfl, o5, y5⟩
  have y05 := y04.trans y5
  refine ⟨rs, rfl, ⟨(viewn_spec ((o5.rwk (S := fun _ => False) fun k hk => hk.elim).mono fun w' u => u) okr (fun w' u => hT w' (y05.trans u) _ y05.size) D.bR).mono ?_⟩⟩
  rintro e w6 ⟨rfl, y6⟩
  have y06 := y05.trans y6
  refine ⟨_, rfl, fun h => absurd rfl h, fun _ => ?_⟩
  have o2' := o2.ext (((y3.trans y4).trans y5).trans y6)
  have o3' := o3.ext ((y4.trans y5).trans y6)
  refine ⟨fun n w' => ∃ k : Nat, n = (k : Nat) ∧ k ≤ qs.n ∧ Ext w6 w', fun n _ => (qs.n - n).toNat, ⟨0, rfl, Nat.zero_le _, Ext.refl _⟩, ?_⟩
  rintro _ n w7 ⟨k, rfl, hk, y7⟩
  have ek : IntKind.i64.wrap ((k : Int) + 1) = ((k + 1 : Nat) : Int) := by rw [wrap_i64 (by omega) (by omega)]; omega
  rw [ek]
  refine ⟨fun hlt => ?_, fun hge => y06.trans y7⟩
  obtain ⟨p, hp, c2⟩ := uv_at (o2'.ext y7).rd (i := k) (by omega)
  obtain ⟨p', hp', c3⟩ := uv_at (o3'.ext y7).rd (i := k) (by omega)
  simp only [Int.toNat_natCast]
  exact ⟨by omega, by omega, p, hp, _, c2, by omega, by omega, p', hp', _, c3, fun w8 q8 => ⟨fun h => absurd rfl h, fun _ => ⟨⟨k + 1, rfl, by omega, y7.trans q8.ext⟩, by omega⟩⟩⟩
end Go.Proofs.YtepmokkhcombmaaDoor.V
