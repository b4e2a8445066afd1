/-
  Law HeapSame: twins.
-/
import Derived.Test.YtggpomialmpgoaaSm1
namespace Go.Proofs.Ytggpomialmpgoaa.V
open Go Go.RowKit
set_option linter.unusedVariables false
set_option linter.unusedSimpArgs false
set_option maxRecDepth 100000

theorem cellN (l : List Nd) (i a : Nat) (p : Nat → Nat) : cellV 0 (fun m => p m + 1) (tN l i) a = if a = 0 then (ndAt l i).n else rv p (nmN l i a) := by
  cases h : nmN l i a with
  | none =>
    rw [cellV_no (t := tN l i) (i := a) h]
    rfl
  | some k =>
    rw [cellV_some (t := tN l i) (i := a) h]
    have : a ≠ 0 := by
      rintro rfl
      unfold nmN at h
      rw [if_neg (by decide)] at h; cases h
    rw [if_neg this]; rfl
section
variable {xa ba ga ra xb bb gb rb' : Nat} {l : List Nd} {Wa Wb : Nat} {fa fb : List Int} {za zb fra frb : Bool} {i : Nat} {oa ob : List Nat} {pa pb : Nat → Nat}
theorem twins_spec : ∀ (deep : Nat), deep ≤ 100 → ∀ (w : World) (o : Option Nat), Gs w xa ba ga ra l Wa fa za fra i oa pa → Gs w xb bb gb rb' l Wb fb zb frb i ob pb → (∀ j, o = some j → j ∈ oa ∧ j ∈ ob) →
    Calls Try.prog 21 #[.pointer (some ⟨xa, 0, none⟩), .pointer (some ⟨xb, 0, none⟩), .int .u64 (rv pa o : Nat), .int .u64 (rv pb o : Nat), .int .i64 (deep : Nat)] w fun e w' => e = .returned (.bool true) ∧ Ext w w' := by
  intro deep
  induction deep with
  | zero =>
    intro _ w o hA hB ho
    refine vc_21 _ _ _ _ _ _ _ ?_
    simp only [eq_self, false_or, or_false, true_and, and_true, decide_eq_true_eq, decide_eq_false_iff_not, gd_st, gd_sf, exists_eq_left', exists_eq_left, Option.some.injEq, Sl.eta, Nat.reduceLeDiff, Int.reduceLE, Int.reduceLT, Int.reduceEq, Int.reduceNe, Nat.reduceMul, Nat.reduceAdd, Nat.reduceSub, Int.toNat_natCast, beq_iff_eq, bne_iff_ne, beq_eq_false_iff_ne, bne_eq_false_iff_eq, pick_and, pick_or, Bool.and_eq_true, Bool.or_eq_true, Bool.and_eq_false_iff, Bool.or_eq_false_iff, ne_eq, not_false_eq_true, Bool.not_eq_true', Bool.not_eq_false', reduceCtorEq, Nat.le_refl, Nat.zero_mul, Nat.mul_one, Nat.zero_add, Int.reduceToNat, ones, one, add_mk, Decidable.not_not, cond_true, cond_false, true_implies, false_implies, implies_true, Bool.not_true, Bool.not_false]
    have h0 : ((rv pa o : Nat) : Int) = 0 ↔ ((rv pb o : Nat) : Int) = 0 := by
      cases o with
      | none => exact Iff.rfl
      | some j => exact ⟨fun h => by have : ((pa j + 1 : Nat) : Int) = 0 := h; omega, fun h => by have : ((pb j + 1 : Nat) : Int) = 0 := h; omega⟩
    have e1 : ((((rv pa o : Nat) : Int) == 0) == (((rv pb o : Nat) : Int) == 0)) = true := by
      by_cases h : ((rv pa o : Nat) : Int) = 0
      · rw [h, h0.1 h]; rfl
      · have h2 : ¬ ((rv pb o : Nat) : Int) = 0 := fun hh => h (h0.2 hh)
        rw [show (((rv pa o : Nat) : Int) == 0) = false from beq_eq_false_iff_ne.2 h, show (((rv pb o : Nat) : Int) == 0) = false from beq_eq_false_iff_ne.2 h2]; rfl
    rw [e1]
    exact ⟨fun _ => ⟨fun _ => ⟨fun _ => ⟨rfl, Ext.refl w⟩, fun h => absurd rfl h⟩, fun _ => ⟨rfl, Ext.refl w⟩⟩, fun _ => ⟨rfl, Ext.refl w⟩⟩
  | succ deep ih =>
    intro hd w o hA hB ho
    refine vc_21 _ _ _ _ _ _ _ ?_
    simp only [eq_self, false_or, or_false, true_and, and_true, decide_eq_true_eq, decide_eq_false_iff_not, gd_st, gd_sf, exists_eq_left', exists_eq_left, Option.some.injEq, Sl.eta, Nat.reduceLeDiff, Int.reduceLE, Int.reduceLT, Int.reduceEq, Int.reduceNe, Nat.reduceMul, Nat.reduceAdd, Nat.reduceSub, Int.toNat_natCast, beq_iff_eq, bne_iff_ne, beq_eq_false_iff_ne, bne_eq_false_iff_eq, pick_and, pick_or, Bool.and_eq_true, Bool.or_eq_true, Bool.and_eq_false_iff, Bool.or_eq_false_iff, ne_eq, not_false_eq_true, Bool.not_eq_true', Bool.not_eq_false', reduceCtorEq, Nat.le_refl, Nat.zero_mul, Nat.mul_one, Nat.zero_add, Int.reduceToNat, ones, one, add_mk, Decidable.not_not, cond_true, cond_false, true_implies, false_implies, implies_true, Bool.not_true, Bool.not_false]
    cases o with
    | none =>
      exact ⟨fun h => absurd rfl h, fun _ => ⟨rb (by simp [rv]), Ext.refl w⟩⟩
    | some j =>
      obtain ⟨hja, hjb⟩ := ho j rfl
      obtain ⟨f1, A, co1, cp1, _, H1, L1, _⟩ := hA.ex
      obtain ⟨f2, C, co2, cp2, _, H2, L2, _⟩ := hB.ex
      have hlt1 := hA.rlt (o := some j) (fun k hk => by injection hk with hk; subst hk; exact hja)
      have hlt2 := hB.rlt (o := some j) (fun k hk => by injection hk with hk; subst hk; exact hjb)
      have n1' : ¬ ((rv pa (some j) : Nat) : Int) = 0 := by show ¬ ((pa j + 1 : Nat) : Int) = 0; omega
      have n2' : ¬ ((rv pb (some j) : Nat) : Int) = 0 := by show ¬ ((pb j + 1 : Nat) : Int) = 0; omega
      refine ⟨fun _ => ⟨fun _ => ⟨fun h => by omega, fun _ => ⟨_, H1.hd.cell 0, ⟨(header_spec H1.ar (r := rv pa (some j)) hlt1).mono ?_⟩⟩⟩, fun h => absurd h n2'⟩, fun h => absurd h n1'⟩
      have e1 : headT A (rv pa (some j)) = some (hdN (kN (ndAt l j))) := L1.headT_at hja
      have e2 : headT C (rv pb (some j)) = some (hdN (kN (ndAt l j))) := L2.headT_at hjb
      rintro e w1 ⟨rfl, x1⟩
      rw [show headT (Hp.mk A fa za fra i co1 cp1).A (rv pa (some j)) = some (hdN (kN (ndAt l j))) from e1]
      refine ⟨_, _, _, _, _, rfl, fun w2 n2 => ⟨rfl, HB.can n2, fun w3 s3 => ?_⟩⟩
      obtain ⟨hb3, x13⟩ := HB.made (h := hdN (kN (ndAt l j))) n2 s3
      have x03 := x1.trans x13
      refine ⟨_, (H2.ext x03).hd.cell 0, ⟨(header_spec (H2.ext x03).ar (r := rv pb (some j)) hlt2).mono ?_⟩⟩
      rintro e w4 ⟨rfl, x4⟩
      rw [show headT (Hp.mk C fb zb frb i co2 cp2).A (rv pb (some j)) = some (hdN (kN (ndAt l j))) from e2]
      refine ⟨_, _, _, _, _, rfl, fun w5 n5 => ⟨rfl, HB.can n5, fun w6 s6 => ?_⟩⟩
      obtain ⟨hb6, x46⟩ := HB.made (h := hdN (kN (ndAt l j))) n5 s6
      have x36 := x4.trans x46
      have x06 := x03.trans x36
      have hb36 := hb3.ext x36
      refine ⟨fun _ => ⟨fun _ => ⟨_, _, _, _, rfl, ⟨hb36.cell 0, hb36.cell 1, hb36.cell 2, hb36.cell 3⟩, _, _, _, _, rfl, ⟨hb6.cell 0, hb6.cell 1, hb6.cell 2, hb6.cell 3⟩, fun hh => ?_, fun _ => ?_⟩, fun h => (by cases h)⟩, fun h => (by cases h)⟩
      · rcases hh with ((hh | hh) | hh) | hh <;> exact absurd rfl hh
      have hlen : (hdN (kN (ndAt l j))).l = ((kN (ndAt l j) + 1 : Nat) : Int) := rfl
      have hk4 : kN (ndAt l j) ≤ 4 := by unfold kN; omega
      refine ⟨fun c w' => ∃ a : Nat, c = (a : Nat) ∧ a ≤ kN (ndAt l j) + 1 ∧ Ext w6 w', fun c _ => (((kN (ndAt l j) + 1 : Nat) : Int) - c).toNat, ⟨0, rfl, Nat.zero_le _, Ext.refl _⟩, ?_⟩
      rintro _ c w7 ⟨a, rfl, ha, x7⟩
      have ea : IntKind.i64.wrap ((a : Int) + 1) = ((a + 1 : Nat) : Int) := by rw [wrap_i64 (by omega) (by omega)]; omega
      rw [ea]
      have x07 := x06.trans x7
      refine ⟨_, (hb36.ext x7).cell 2, fun hlt => ?_, fun hge => x07⟩
      rw [hlen] at hlt
      refine ⟨_, (H1.ext x07).hd.cell 0, ⟨(Cell_spec (H1.ext x07).ar (r := rv pa (some j)) hlt1 (i := (a : Int)) (by omega)).mono ?_⟩⟩
      rintro e w8 ⟨rfl, x8⟩
      have c1 := L1.cell_at hja (i := a) (by rw [tN_len]; omega)
      have c2 := L2.cell_at hjb (i := a) (by rw [tN_len]; omega)
      rw [cellN] at c1 c2
      have x08 := x07.trans x8
      rw [show cellO (Hp.mk A fa za fra i co1 cp1).A (rv pa (some j)) (a : Int) = (if a = 0 then (ndAt l j).n else rv pa (nmN l j a), 0) from c1]
      refine ⟨_, _, rfl, _, (H2.ext x08).hd.cell 0, ⟨(Cell_spec (H2.ext x08).ar (r := rv pb (some j)) hlt2 (i := (a : Int)) (by omega)).mono ?_⟩⟩
      rintro e w9 ⟨rfl, x9⟩
      rw [show cellO (Hp.mk C fb zb frb i co2 cp2).A (rv pb (some j)) (a : Int) = (if a = 0 then (ndAt l j).n else rv pb (nmN l j a), 0) from c2]
      have x79 := x8.trans x9
      have x69 := x7.trans x79
      have x09 := x07.trans x79
      have go : ∀ {w' : World}, Ext w9 w' → (∃ a' : Nat, ((a + 1 : Nat) : Int) = (a' : Nat) ∧ a' ≤ kN (ndAt l j) + 1 ∧ Ext w6 w') ∧ (((kN (ndAt l j) + 1 : Nat) : Int) - ((a + 1 : Nat) : Int)).toNat < (((kN (ndAt l j) + 1 : Nat) : Int) - (a : Int)).toNat := fun xx => ⟨⟨a + 1, rfl, by omega, x69.trans xx⟩, by omega⟩
      have ed : IntKind.i64.wrap (((deep + 1 : Nat) : Int) - 1) = (deep : Nat) := by rw [wrap_i64 (by omega) (by omega)]; omega
      by_cases h0 : a = 0
      · subst h0
        simp only [if_pos]
        refine ⟨_, _, rfl, fun _ => ⟨fun _ => ⟨fun _ => ⟨fun h => (by simp at h), fun _ => ⟨fun h => absurd h (by omega), fun _ => go (Ext.refl _)⟩⟩, fun h => (by simp at h)⟩, fun h => (by simp at h)⟩, fun h => (by simp at h)⟩
      · simp only [if_neg h0]
        rw [ed]
        have hin : ∀ k, nmN l j a = some k → k ∈ oa ∧ k ∈ ob := fun k hk => ⟨L1.closed j hja a (by rw [tN_len]; omega) k hk, L2.closed j hjb a (by rw [tN_len]; omega) k hk⟩
        refine ⟨_, _, rfl, fun _ => ⟨fun _ => ⟨fun h => by omega, fun _ => ⟨fun _ => ⟨(ih (by omega) w9 (nmN l j a) (hA.ext x09) (hB.ext x09) hin).mono ?_⟩, fun h => by omega⟩⟩, fun h => (by simp at h)⟩, fun h => (by simp at h)⟩
        rintro e w10 ⟨rfl, x10⟩
        exact ⟨_, rfl, fun h => (by cases h), fun _ => go x10⟩
end
end Go.Proofs.Ytggpomialmpgoaa.V
