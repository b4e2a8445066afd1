/-
  What a graph tells: Reached, Over, From, leads, Blocks.
-/
import Derived.Test.YtilaeefmfiihlaaFl8
namespace Go.Proofs.Ytilaeefmfiihlaa.V
open Go Go.RowKit
set_option linter.unusedVariables false
set_option linter.unusedSimpArgs false
set_option maxRecDepth 100000

open Classical in
noncomputable def rB (c : List Ins) (x : Nat) : Bool := decide (Rc c x)
noncomputable def rcL (c : List Ins) : List Bool := (List.range c.length).map (rB c)
def Over (c : List Ins) (a b : Nat) : Prop := Rc c a ∧ Rc c b ∧ ¬ Av (Eg c) b a
open Classical in
noncomputable def overB (c : List Ins) (a b : Int) : Bool := decide (0 ≤ a ∧ a < c.length ∧ 0 ≤ b ∧ b < c.length ∧ Over c a.toNat b.toNat)
def fromT (c : List Ins) (at_ : Int) : List Int := if 0 ≤ at_ ∧ at_ < c.length then castL (frT c at_.toNat) else []
def Lead (c : List Ins) (x : Nat) : Prop := Rc c x ∧ (x = 0 ∨ ∃ f, x ∈ nxT c f ∧ Rc c f ∧ (f + 1 ≠ x ∨ 1 < (nxT c f).length))
open Classical in
noncomputable def ldB (c : List Ins) (x : Nat) : Bool := decide (Lead c x)
abbrev Bk := Nat × Nat × List Nat
def setLast (l : List Bk) (t : Nat) (n : List Nat) : List Bk := match l.getLast? with
  | none => l
  | some b => l.dropLast ++ [(b.1, t, n)]
noncomputable def blk (c : List Ins) : Nat → List Bk
  | 0 => []
  | i + 1 => if rB c i then setLast (if ldB c i then blk c i ++ [(i, 0, [])] else blk c i) (i + 1) (nxT c i) else blk c i
theorem Rc_lt {c : List Ins} {x : Nat} (h : Rc c x) : x < c.length := by
  cases h with
  | zero h => omega
  | step _ e _ => exact (mem_nxT.1 e).1
theorem Rc_zero {c : List Ins} (h : c ≠ []) : Rc c 0 := .zero (fun e => h (List.eq_nil_of_length_eq_zero e.symm))
theorem rB_iff {c : List Ins} {x : Nat} : rB c x = true ↔ Rc c x := by unfold rB; simp
theorem ldB_iff {c : List Ins} {x : Nat} : ldB c x = true ↔ Lead c x := by unfold ldB; simp
@[simp] theorem rcL_length (c : List Ins) : (rcL c).length = c.length := by simp [rcL]
theorem rcL_get {c : List Ins} {x : Nat} (h : x < c.length) : (rcL c)[x]? = some (rB c x) := by unfold rcL; rw [List.getElem?_map, List.getElem?_range h]; rfl
theorem rcL_of {c : List Ins} {rb : List Bool} (hl : rb.length = c.length) (h : ∀ x, x < c.length → (rb[x]? = some true ↔ Rc c x)) : rb = rcL c := by
  apply List.ext_getElem?
  intro i
  by_cases hi : i < c.length
  · rw [rcL_get hi]
    obtain ⟨b, hb⟩ : ∃ b, rb[i]? = some b := ⟨_, List.getElem?_eq_getElem (by omega)⟩
    rw [hb]
    have := h i hi
    rw [hb] at this
    congr 1
    cases b with
    | true => exact (rB_iff.2 (this.1 rfl)).symm
    | false =>
      cases hr : rB c i with
      | false => rfl
      | true => have := this.2 (rB_iff.1 hr); cases this
  · rw [List.getElem?_eq_none (by omega), List.getElem?_eq_none (by rw [rcL_length]; omega)]
/-- one that does not lead has the one ahead of it -/
theorem nolead {c : List Ins} {x : Nat} (h : Rc c x) (hl : ¬ Lead c x) : 0 < x ∧ Rc c (x - 1) ∧ nxT c (x - 1) = [x] := by
  have h0 : x ≠ 0 := fun e => hl ⟨h, .inl e⟩
  cases h with
  | zero _ => exact absurd rfl h0
  | @step f _ hf e hne =>
    have hfx : f + 1 = x ∧ ¬ 1 < (nxT c f).length := by
      refine ⟨Classical.byContradiction fun hh => hl ⟨.step hf e hne, .inr ⟨f, e, hf, .inl hh⟩⟩, fun hh => hl ⟨.step hf e hne, .inr ⟨f, e, hf, .inr hh⟩⟩⟩
    have hx1 : x - 1 = f := by omega
    refine ⟨by omega, by rw [hx1]; exact hf, ?_⟩
    rw [hx1]
    have hm : x ∈ nxT c f := e
    match hl : nxT c f, hm with
    | [a], hm => rw [List.mem_singleton] at hm; rw [hm]
    | a :: b :: r, _ => rw [hl] at hfx; simp at hfx
    | [], hm => cases hm
section
variable {w w' : World} {B g : Nat} {c : List Ins}
theorem GF.ext (h : GF w B g c) (u : Ext w w') : GF w' B g c := by
  obtain ⟨bn, bf, br, bo, bd, rb, ov, o, G, R, h1, h2, O, N⟩ := h
  exact ⟨bn, bf, br, bo, bd, rb, ov, o, G.ext u, R.ext u, h1, h2, O.ext u, N⟩
/-- as it is told of -/
structure GO (w : World) (B g : Nat) (c : List Ins) (bn bf br bo bd : Nat) (ov : Nat → Option Nat) (o : Nat → Nat) : Prop where
  G : GM w B g bn bf br c ⟨some ⟨bo, 0, none⟩, c.length, c.length⟩ ⟨some ⟨bd, 0, none⟩, c.length, c.length⟩
  R : Blk w br 4 (bbv (rcL c))
  O : Blk w bo 3 (ovV c.length ov)
  N : NearOk c o ov
theorem GF.open_ (h : GF w B g c) : ∃ bn bf br bo bd ov o, GO w B g c bn bf br bo bd ov o := by
  obtain ⟨bn, bf, br, bo, bd, rb, ov, o, G, R, h1, h2, O, N⟩ := h
  rw [rcL_of h1 h2] at R
  exact ⟨bn, bf, br, bo, bd, ov, o, G, R, O, N⟩
theorem GO.ext {bn bf br bo bd : Nat} {ov : Nat → Option Nat} {o : Nat → Nat} (h : GO w B g c bn bf br bo bd ov o) (u : Ext w w') : GO w' B g c bn bf br bo bd ov o := ⟨h.G.ext u, h.R.ext u, h.O.ext u, h.N⟩
theorem GO.rc {bn bf br bo bd : Nat} {ov : Nat → Option Nat} {o : Nat → Nat} (h : GO w B g c bn bf br bo bd ov o) {x : Nat} (hx : x < c.length) : w.cell? ((⟨br, 0, none⟩ : Addr).add x) = some (.bool (rB c x)) := by
  rw [add_mk, Nat.zero_add, h.R.cell]; unfold bbv; rw [List.getElem?_map, rcL_get hx]; rfl
theorem has_spec (h : GF w B g c) (x : Int) : Calls Try.prog 30 #[.pointer (some ⟨g, 0, none⟩), .int .i64 x] w fun e w' => e = .returned (.bool (decide (0 ≤ x ∧ x < c.length))) ∧ w' = w := by
  refine vc_30 _ _ _ _ ?_
  obtain ⟨bn, bf, br, bo, bd, ov, o, H⟩ := h.open_
  simp only [eq_self, false_or, or_false, true_and, and_true, decide_eq_true_eq, decide_eq_false_iff_not, gd_st, gd_sf, exists_eq_left', exists_eq_left, Option.some.injEq, Sl.eta, Nat.reduceLeDiff, Int.reduceLE, Int.reduceLT, Int.reduceEq, Int.reduceNe, Nat.reduceMul, Nat.reduceAdd, Nat.reduceSub, Int.toNat_natCast, beq_iff_eq, bne_iff_ne, beq_eq_false_iff_ne, bne_eq_false_iff_eq, pick_and, pick_or, Bool.and_eq_true, Bool.or_eq_true, Bool.and_eq_false_iff, Bool.or_eq_false_iff, ne_eq, not_false_eq_true, Bool.not_eq_true', Bool.not_eq_false', reduceCtorEq, Nat.le_refl, Nat.zero_mul, Nat.mul_one, Nat.zero_add, Int.reduceToNat, ones, one, add_mk, Decidable.not_not, cond_true, cond_false, true_implies, false_implies, implies_true, Bool.not_true, Bool.not_false]
  refine ⟨fun h0 => ⟨⟨some ⟨bn, 0, none⟩, c.length, c.length⟩, H.G.hd.cell 0, ?_⟩, fun h0 => (rbF fun hh => h0 hh.1).symm⟩
  · congr 2
    exact decide_eq_decide.2 ⟨fun h => ⟨h0, h⟩, fun h => h.2⟩
theorem reached_spec (h : GF w B g c) (hm : c.length ≤ 1000) : Calls Try.prog 14 #[.pointer (some ⟨g, 0, none⟩)] w fun e w' => ∃ s : Sl, e = .returned (.slice s.a s.n s.c) ∧ Own w' w.heap.size 4 1 s (bbv (rcL c)) ∧ Ext w w' := by
  refine vc_14 _ _ _ ?_
  obtain ⟨bn, bf, br, bo, bd, ov, o, H⟩ := h.open_
  simp only [eq_self, false_or, or_false, true_and, and_true, decide_eq_true_eq, decide_eq_false_iff_not, gd_st, gd_sf, exists_eq_left', exists_eq_left, Option.some.injEq, Sl.eta, Nat.reduceLeDiff, Int.reduceLE, Int.reduceLT, Int.reduceEq, Int.reduceNe, Nat.reduceMul, Nat.reduceAdd, Nat.reduceSub, Int.toNat_natCast, beq_iff_eq, bne_iff_ne, beq_eq_false_iff_ne, bne_eq_false_iff_eq, pick_and, pick_or, Bool.and_eq_true, Bool.or_eq_true, Bool.and_eq_false_iff, Bool.or_eq_false_iff, ne_eq, not_false_eq_true, Bool.not_eq_true', Bool.not_eq_false', reduceCtorEq, Nat.le_refl, Nat.zero_mul, Nat.mul_one, Nat.zero_add, Int.reduceToNat, ones, one, add_mk, Decidable.not_not, cond_true, cond_false, true_implies, false_implies, implies_true, Bool.not_true, Bool.not_false]
  have rd : Rd w 1 ⟨some ⟨br, 0, none⟩, c.length, c.length⟩ (bbv (rcL c)) := by
    have := H.R.rd (z := 1) (o := 0) (n := c.length) (c := c.length) (by simp)
    simp only [Nat.mul_one, List.drop_zero] at this
    rw [List.take_of_length_le (by simp)] at this
    exact this
  refine ⟨⟨some ⟨br, 0, none⟩, c.length, c.length⟩, H.G.hd.cell 2, ⟨(cloneb_spec rd (fun h => (by cases h)) (by rw [rcL_length]; exact hm)).mono ?_⟩⟩
  rintro e w1 ⟨s, rfl, o1, x1⟩
  exact ⟨s, rfl, s, rfl, o1, x1⟩
theorem from_spec (h : GF w B g c) (hm : c.length ≤ 1000) (x : Int) : Calls Try.prog 16 #[.pointer (some ⟨g, 0, none⟩), .int .i64 x] w fun e w' => ∃ s : Sl, e = .returned (.slice s.a s.n s.c) ∧ Own w' w.heap.size 3 1 s (iv (fromT c x)) ∧ Ext w w' := by
  refine vc_16 _ _ _ _ ?_
  obtain ⟨bn, bf, br, bo, bd, ov, o, H⟩ := h.open_
  simp only [eq_self, false_or, or_false, true_and, and_true, decide_eq_true_eq, decide_eq_false_iff_not, gd_st, gd_sf, exists_eq_left', exists_eq_left, Option.some.injEq, Sl.eta, Nat.reduceLeDiff, Int.reduceLE, Int.reduceLT, Int.reduceEq, Int.reduceNe, Nat.reduceMul, Nat.reduceAdd, Nat.reduceSub, Int.toNat_natCast, beq_iff_eq, bne_iff_ne, beq_eq_false_iff_ne, bne_eq_false_iff_eq, pick_and, pick_or, Bool.and_eq_true, Bool.or_eq_true, Bool.and_eq_false_iff, Bool.or_eq_false_iff, ne_eq, not_false_eq_true, Bool.not_eq_true', Bool.not_eq_false', reduceCtorEq, Nat.le_refl, Nat.zero_mul, Nat.mul_one, Nat.zero_add, Int.reduceToNat, ones, one, add_mk, Decidable.not_not, cond_true, cond_false, true_implies, false_implies, implies_true, Bool.not_true, Bool.not_false]
  refine ⟨(has_spec h x).mono ?_⟩
  rintro e w1 ⟨rfl, rfl⟩
  refine ⟨_, rfl, fun hb => ?_, fun hb => ?_⟩
  · rw [decide_eq_false_iff_not] at hb
    unfold fromT; rw [if_neg hb]
    exact ⟨⟨none, 0, 0⟩, rfl, Own.nil _ _ _ _, Ext.refl _⟩
  · rw [decide_eq_true_iff] at hb
    unfold fromT; rw [if_pos hb]
    obtain ⟨s, hs, os⟩ := H.G.fr.get (i := x.toNat) (by omega)
    have hl : (frT c x.toNat).length ≤ c.length := by
      have := List.length_filter_le (fun i => decide (x.toNat ∈ nxT c i)) (List.range c.length)
      rw [List.length_range] at this; exact this
    refine ⟨⟨some ⟨bf, 0, none⟩, c.length, c.length⟩, H.G.hd.cell 1, hb.1, hb.2, _, rfl, s, by rw [add_mk, Nat.zero_add]; exact hs, ⟨(clone_spec os.rd (fun h => by rw [(os.none_ h).1]) (by unfold castL; rw [List.length_map]; omega)).mono ?_⟩⟩
    rintro e w2 ⟨s2, rfl, o2, x2⟩
    exact ⟨s2, rfl, s2, rfl, o2, x2⟩
theorem over_spec (h : GF w B g c) (hm : c.length ≤ 1000) (x y : Int) : Calls Try.prog 15 #[.pointer (some ⟨g, 0, none⟩), .int .i64 x, .int .i64 y] w fun e w' => e = .returned (.bool (overB c x y)) ∧ w' = w := by
  refine vc_15 _ _ _ _ _ ?_
  obtain ⟨bn, bf, br, bo, bd, ov, o, H⟩ := h.open_
  have no : ¬ (0 ≤ x ∧ x < c.length ∧ 0 ≤ y ∧ y < c.length ∧ Over c x.toNat y.toNat) → overB c x y = false := fun hh => by unfold overB; rw [decide_eq_false_iff_not]; exact hh
  simp only [eq_self, false_or, or_false, true_and, and_true, decide_eq_true_eq, decide_eq_false_iff_not, gd_st, gd_sf, exists_eq_left', exists_eq_left, Option.some.injEq, Sl.eta, Nat.reduceLeDiff, Int.reduceLE, Int.reduceLT, Int.reduceEq, Int.reduceNe, Nat.reduceMul, Nat.reduceAdd, Nat.reduceSub, Int.toNat_natCast, beq_iff_eq, bne_iff_ne, beq_eq_false_iff_ne, bne_eq_false_iff_eq, pick_and, pick_or, Bool.and_eq_true, Bool.or_eq_true, Bool.and_eq_false_iff, Bool.or_eq_false_iff, ne_eq, not_false_eq_true, Bool.not_eq_true', Bool.not_eq_false', reduceCtorEq, Nat.le_refl, Nat.zero_mul, Nat.mul_one, Nat.zero_add, Int.reduceToNat, ones, one, add_mk, Decidable.not_not, cond_true, cond_false, true_implies, false_implies, implies_true, Bool.not_true, Bool.not_false]
  refine ⟨(has_spec h x).mono ?_⟩
  rintro e w1 ⟨rfl, rfl⟩
  refine ⟨_, rfl, fun hb => ?_, fun hb => ?_⟩
  rotate_left
  · rw [decide_eq_false_iff_not] at hb
    rw [no fun hh => hb ⟨hh.1, hh.2.1⟩]; exact ⟨rfl, rfl⟩
  rw [decide_eq_true_iff] at hb
  refine ⟨(has_spec h y).mono ?_⟩
  rintro e w2 ⟨rfl, rfl⟩
  refine ⟨_, rfl, fun hb2 => ?_, fun hb2 => ?_⟩
  rotate_left
  · rw [decide_eq_false_iff_not] at hb2
    rw [no fun hh => hb2 ⟨hh.2.2.1, hh.2.2.2.1⟩]; exact ⟨rfl, rfl⟩
  rw [decide_eq_true_iff] at hb2
  obtain ⟨a, rfl⟩ : ∃ a : Nat, x = (a : Nat) := ⟨x.toNat, by omega⟩
  obtain ⟨b, rfl⟩ : ∃ b : Nat, y = (b : Nat) := ⟨y.toNat, by omega⟩
  rw [Int.toNat_natCast, Int.toNat_natCast] at no
  refine ⟨⟨some ⟨br, 0, none⟩, c.length, c.length⟩, H.G.hd.cell 2, hb.1, hb.2, _, rfl, _, by rw [Int.toNat_natCast]; exact H.rc (by omega), fun hra => ?_, fun hra => ?_⟩
  rotate_left
  · rw [no fun hh => (by rw [rB_iff.2 hh.2.2.2.2.1] at hra; cases hra)]; exact ⟨rfl, rfl⟩
  refine ⟨⟨some ⟨br, 0, none⟩, c.length, c.length⟩, H.G.hd.cell 2, hb2.1, hb2.2, _, rfl, _, by rw [Int.toNat_natCast]; exact H.rc (by omega), fun hrb => ?_, fun hrb => ?_⟩
  · rw [no fun hh => (by rw [rB_iff.2 hh.2.2.2.2.2.1] at hrb; cases hrb)]; exact ⟨rfl, rfl⟩
  have ra := rB_iff.1 hra
  have rb := rB_iff.1 hrb
  have hov : ∀ z : Nat, Rc c z → (∀ v, Ch ov a v ↔ Ch ov z v ∨ (Ch ov a v ∧ v ≠ b)) → True := fun _ _ _ => trivial
  refine ⟨fun n w' => ∃ z : Nat, n = (z : Nat) ∧ Rc c z ∧ (Ch ov a b ↔ Ch ov z b) ∧ w' = w2, fun n _ => o n.toNat, ⟨a, rfl, ra, Iff.rfl, rfl⟩, ?_⟩
  rintro _ n w3 ⟨z, rfl, rz, hz, rfl⟩
  have fin : (Ch ov z b ↔ z = b) → Ending.returned (.bool (((z : Nat) : Int) == ((b : Nat) : Int))) = .returned (.bool (overB c (a : Nat) (b : Nat))) := fun hh => by
    congr 2
    unfold overB
    rw [show (((z : Nat) : Int) == ((b : Nat) : Int)) = decide (((z : Nat) : Int) = ((b : Nat) : Int)) from rfl]
    refine decide_eq_decide.2 ?_
    rw [Int.toNat_natCast, Int.toNat_natCast]
    refine ⟨fun e => ⟨hb.1, hb.2, hb2.1, hb2.2, ra, rb, (H.N.D a ra b).1 (hz.2 (hh.2 (by omega)))⟩, fun e => ?_⟩
    have := hh.1 (hz.1 ((H.N.D a ra b).2 e.2.2.2.2.2.2))
    omega
  refine ⟨fun hne => ⟨fun h0 => ?_, fun h0 => ?_⟩, fun he => ?_⟩
  · have z0 : z ≠ 0 := by omega
    obtain ⟨z', hz'⟩ := (H.N.P z rz).some z0
    have hl := H.N.I.i1 _ _ hz'
    have hzl := Rc_lt rz
    refine ⟨⟨some ⟨bo, 0, none⟩, c.length, c.length⟩, H.G.hd.cell 3, by omega, by dsimp only; omega, _, rfl, ((z' : Nat) : Int), by rw [Int.toNat_natCast, add_mk, Nat.zero_add, H.O.cell, ovV_get hzl, ovI_some hz'], ⟨z', rfl, hl.2.1, hz.trans ⟨fun hch => ?_, fun hch => .step hz' hch⟩, rfl⟩, by simp only [Int.toNat_natCast]; exact hl.2.2.2⟩
    cases hch with
    | refl _ => exact absurd rfl hne
    | step e hh => rw [hz'] at e; injection e with e; subst e; exact hh
  · refine ⟨fin ⟨fun hch => ?_, fun e => by rw [e]; exact .refl _⟩, rfl⟩
    have z0 : z = 0 := by omega
    subst z0
    exact (hch.end_ H.N.I.z0).symm
  · have : z = b := by omega
    subst this
    exact ⟨fin ⟨fun _ => rfl, fun _ => .refl _⟩, rfl⟩
theorem leads_spec (h : GF w B g c) (hm : c.length ≤ 1000) {x : Nat} (hx : x < c.length) : Calls Try.prog 36 #[.pointer (some ⟨g, 0, none⟩), .int .i64 (x : Nat)] w fun e w' => e = .returned (.bool (ldB c x)) ∧ w' = w := by
  refine vc_36 _ _ _ _ ?_
  obtain ⟨bn, bf, br, bo, bd, ov, o, H⟩ := h.open_
  have c0 : c ≠ [] := by rintro rfl; exact absurd hx (Nat.not_lt_zero _)
  simp only [eq_self, false_or, or_false, true_and, and_true, decide_eq_true_eq, decide_eq_false_iff_not, gd_st, gd_sf, exists_eq_left', exists_eq_left, Option.some.injEq, Sl.eta, Nat.reduceLeDiff, Int.reduceLE, Int.reduceLT, Int.reduceEq, Int.reduceNe, Nat.reduceMul, Nat.reduceAdd, Nat.reduceSub, Int.toNat_natCast, beq_iff_eq, bne_iff_ne, beq_eq_false_iff_ne, bne_eq_false_iff_eq, pick_and, pick_or, Bool.and_eq_true, Bool.or_eq_true, Bool.and_eq_false_iff, Bool.or_eq_false_iff, ne_eq, not_false_eq_true, Bool.not_eq_true', Bool.not_eq_false', reduceCtorEq, Nat.le_refl, Nat.zero_mul, Nat.mul_one, Nat.zero_add, Int.reduceToNat, ones, one, add_mk, Decidable.not_not, cond_true, cond_false, true_implies, false_implies, implies_true, Bool.not_true, Bool.not_false]
  refine ⟨fun h0 => ⟨⟨some ⟨br, 0, none⟩, c.length, c.length⟩, H.G.hd.cell 2, by omega, by dsimp only; omega, _, rfl, _, H.rc hx, fun hr => ⟨⟨some ⟨br, 0, none⟩, c.length, c.length⟩, H.G.hd.cell 2, by omega, by dsimp only; omega, _, rfl, _, H.rc hx, ?_⟩, fun hr => ?_⟩, fun h0 => ⟨⟨some ⟨br, 0, none⟩, c.length, c.length⟩, H.G.hd.cell 2, by omega, by dsimp only; omega, _, rfl, _, H.rc hx, ?_⟩⟩
  · have : ldB c x = false := by
      cases hl : ldB c x with
      | false => rfl
      | true => have := (ldB_iff.1 hl).1; rw [rB_iff.2 this] at hr; cases hr
    rw [hr, this]
  rotate_left
  · have : x = 0 := by omega
    subst this
    rw [rB_iff.2 (Rc_zero c0), ldB_iff.2 ⟨Rc_zero c0, .inl rfl⟩]
  have rx := rB_iff.1 hr
  obtain ⟨s, hs, os⟩ := H.G.fr.get hx
  have hsn := os.rd.leni
  have hcl : (castL (frT c x)).length = (frT c x).length := by unfold castL; rw [List.length_map]
  have hl : (frT c x).length ≤ c.length := by
    have := List.length_filter_le (fun i => decide (x ∈ nxT c i)) (List.range c.length)
    rw [List.length_range] at this; exact this
  refine ⟨⟨some ⟨bf, 0, none⟩, c.length, c.length⟩, H.G.hd.cell 1, by omega, by dsimp only; omega, _, rfl, s, by rw [add_mk, Nat.zero_add]; exact hs, ?_⟩
  refine ⟨fun n w' => ∃ k : Nat, n = (k : Nat) ∧ k ≤ (frT c x).length ∧ (∀ f ∈ (frT c x).take k, Rc c f → f + 1 = x ∧ ¬ 1 < (nxT c f).length) ∧ w' = w, fun n _ => ((frT c x).length - n).toNat, ⟨0, rfl, Nat.zero_le _, fun f hf => by simp at hf, rfl⟩, ?_⟩
  rintro _ n w1 ⟨k, rfl, hk, hall, rfl⟩
  have ek : IntKind.i64.wrap ((k : Int) + 1) = ((k + 1 : Nat) : Int) := by rw [wrap_i64 (by omega) (by omega)]; omega
  have ex : IntKind.i64.wrap ((x : Int) - 1) = (x : Int) - 1 := wrap_i64 (by omega) (by omega)
  rw [ek, ex]
  refine ⟨fun hlt => ?_, fun hge => ?_⟩
  · obtain ⟨pf, hpf, hcpf⟩ := os.rd.2 (by omega)
    obtain ⟨f, hf⟩ : ∃ f, (frT c x)[k]? = some f := ⟨_, List.getElem?_eq_getElem (by omega)⟩
    have hfc := hcpf k (.int .i64 (f : Nat)) (by unfold iv castL; rw [List.getElem?_map, List.getElem?_map, hf]; rfl)
    have hfm : f < c.length ∧ x ∈ nxT c f := by have := List.mem_of_getElem? hf; unfold frT at this; simpa using this
    obtain ⟨s2, hs2, os2⟩ := H.G.nx.get hfm.1
    have hs2n := os2.rd.leni
    have hcl2 : (castL (nxT c f)).length = (nxT c f).length := by unfold castL; rw [List.length_map]
    have yes : Rc c f → (f + 1 ≠ x ∨ 1 < (nxT c f).length) → ldB c x = true := fun hr hh => ldB_iff.2 ⟨rx, .inr ⟨f, hfm.2, hr, hh⟩⟩
    have go : (Rc c f → f + 1 = x ∧ ¬ 1 < (nxT c f).length) → (∃ k' : Nat, ((k + 1 : Nat) : Int) = (k' : Nat) ∧ k' ≤ (frT c x).length ∧ (∀ f ∈ (frT c x).take k', Rc c f → f + 1 = x ∧ ¬ 1 < (nxT c f).length) ∧ w1 = w1) ∧ (((frT c x).length : Int) - ((k + 1 : Nat) : Int)).toNat < (((frT c x).length : Int) - (k : Nat)).toNat := fun hh => by
      refine ⟨⟨k + 1, rfl, by omega, fun f' hf' => ?_, rfl⟩, by omega⟩
      rw [take_snoc hf, List.mem_append, List.mem_singleton] at hf'
      rcases hf' with hf' | rfl
      · exact hall f' hf'
      · exact hh
    refine ⟨by omega, hlt, pf, hpf, _, by rw [Int.toNat_natCast]; exact hfc, ⟨some ⟨br, 0, none⟩, c.length, c.length⟩, H.G.hd.cell 2, by omega, by dsimp only; omega, _, rfl, _, by rw [Int.toNat_natCast]; exact H.rc hfm.1, fun hrf => ⟨fun hfx => ⟨⟨some ⟨bn, 0, none⟩, c.length, c.length⟩, H.G.hd.cell 0, by omega, by dsimp only; omega, _, rfl, s2, by rw [Int.toNat_natCast, add_mk, Nat.zero_add]; exact hs2, fun h1 => ?_, fun h1 => go fun _ => ⟨by omega, by omega⟩⟩, fun hfx => ?_⟩, fun hrf => go fun hr => by rw [rB_iff.2 hr] at hrf; cases hrf⟩
    · rw [yes (rB_iff.1 hrf) (.inr (by omega))]; exact ⟨rfl, rfl⟩
    · rw [yes (rB_iff.1 hrf) (.inl (by omega))]; exact ⟨rfl, rfl⟩
  · rw [List.take_of_length_le (by omega)] at hall
    have : ldB c x = false := by
      cases hl : ldB c x with
      | false => rfl
      | true =>
        obtain ⟨_, h1 | ⟨f, e, hr, hh⟩⟩ := ldB_iff.1 hl
        · omega
        · have hf : f ∈ frT c x := by
            unfold frT; simp
            exact ⟨Rc_lt hr, e⟩
          obtain ⟨a1, a2⟩ := hall f hf hr
          rcases hh with hh | hh
          · exact absurd a1 hh
          · exact absurd hh a2
    rw [this]; exact ⟨rfl, rfl⟩
end
end Go.Proofs.Ytilaeefmfiihlaa.V
