/-
  The document's Reached, From, Over, Leader.
-/
import Derived.Test.YtilaeefmfiihlaaFld
namespace Go.Proofs.Ytilaeefmfiihlaa.V
open Go Go.RowKit
set_option linter.unusedVariables false
set_option linter.unusedSimpArgs false
set_option maxRecDepth 100000

section
variable {w w' : World} {c : List Ins} {code rs : Sl}
theorem hasV (c : List Ins) (i : Nat) (x : Int) : x ∈ castL (nxT c i) ↔ 0 ≤ x ∧ x.toNat ∈ nxT c i := by
  rw [mem_castL]
  constructor
  · rintro ⟨k, hk, rfl⟩; exact ⟨by omega, by rw [Int.toNat_natCast]; exact hk⟩
  · rintro ⟨h0, h⟩; exact ⟨x.toNat, h, by omega⟩
theorem nextT_nat {i : Nat} (hi : i < c.length) : nextT c (i : Nat) = castL (nxT c i) := by unfold nextT; rw [if_pos ⟨by omega, by omega⟩, Int.toNat_natCast]
theorem castL_len (l : List Nat) : (castL l).length = l.length := by unfold castL; rw [List.length_map]
theorem rreached_spec (h : Rd w 3 code (cdV c)) (hm : c.length ≤ 1000) :
    Calls Try.prog 25 #[.slice code.a code.n code.c] w fun e w' => ∃ s : Sl, e = .returned (.slice s.a s.n s.c) ∧ Own w' w.heap.size 4 1 s (bbv (rcL c)) ∧ Ext w w' := by
  refine vc_25 _ _ _ ?_
  simp only [eq_self, false_or, or_false, true_and, and_true, decide_eq_true_eq, decide_eq_false_iff_not, gd_st, gd_sf, exists_eq_left', exists_eq_left, Option.some.injEq, Sl.eta, Nat.reduceLeDiff, Int.reduceLE, Int.reduceLT, Int.reduceEq, Int.reduceNe, Nat.reduceMul, Nat.reduceAdd, Nat.reduceSub, Int.toNat_natCast, beq_iff_eq, bne_iff_ne, beq_eq_false_iff_ne, bne_eq_false_iff_eq, pick_and, pick_or, Bool.and_eq_true, Bool.or_eq_true, Bool.and_eq_false_iff, Bool.or_eq_false_iff, ne_eq, not_false_eq_true, Bool.not_eq_true', Bool.not_eq_false', reduceCtorEq, Nat.le_refl, Nat.zero_mul, Nat.mul_one, Nat.zero_add, Int.reduceToNat, ones, one, add_mk, Decidable.not_not, cond_true, cond_false, true_implies, false_implies, implies_true, Bool.not_true, Bool.not_false]
  refine ⟨(without_spec h hm (x := -1) (d := c.length) (fun k hk => by omega) (fun h => by omega)).mono ?_⟩
  rintro e w1 ⟨s, rfl, o1, x1⟩
  rw [avL_rc] at o1
  exact ⟨s, rfl, s, rfl, o1, x1⟩
theorem rfrom_spec (h : Rd w 3 code (cdV c)) (hm : c.length ≤ 1000) (x : Int) :
    Calls Try.prog 26 #[.slice code.a code.n code.c, .int .i64 x] w fun e w' => ∃ s : Sl, e = .returned (.slice s.a s.n s.c) ∧ Own w' w.heap.size 3 1 s (iv (fromT c x)) ∧ Ext w w' := by
  refine vc_26 _ _ _ _ ?_
  have hn := h.lenc
  simp only [eq_self, false_or, or_false, true_and, and_true, decide_eq_true_eq, decide_eq_false_iff_not, gd_st, gd_sf, exists_eq_left', exists_eq_left, Option.some.injEq, Sl.eta, Nat.reduceLeDiff, Int.reduceLE, Int.reduceLT, Int.reduceEq, Int.reduceNe, Nat.reduceMul, Nat.reduceAdd, Nat.reduceSub, Int.toNat_natCast, beq_iff_eq, bne_iff_ne, beq_eq_false_iff_ne, bne_eq_false_iff_eq, pick_and, pick_or, Bool.and_eq_true, Bool.or_eq_true, Bool.and_eq_false_iff, Bool.or_eq_false_iff, ne_eq, not_false_eq_true, Bool.not_eq_true', Bool.not_eq_false', reduceCtorEq, Nat.le_refl, Nat.zero_mul, Nat.mul_one, Nat.zero_add, Int.reduceToNat, ones, one, add_mk, Decidable.not_not, cond_true, cond_false, true_implies, false_implies, implies_true, Bool.not_true, Bool.not_false]
  obtain ⟨P, hP⟩ : ∃ P : Nat → Bool, P = fun i => decide (x ∈ castL (nxT c i)) := ⟨_, rfl⟩
  have hlast : castL ((List.range c.length).filter P) = fromT c x := by
    unfold fromT
    split
    · congr 1
      unfold frT
      refine List.filter_congr fun i _ => ?_
      rw [hP]
      refine decide_eq_decide.2 ?_
      rw [hasV]
      exact ⟨fun h => h.2, fun h => ⟨by omega, h⟩⟩
    · rename_i hx
      have : (List.range c.length).filter P = [] := by
        rw [List.filter_eq_nil_iff]
        intro i _ hi
        rw [hP] at hi
        have hi' := (hasV c i x).1 (of_decide_eq_true hi)
        have := (mem_nxT.1 hi'.2).1
        omega
      rw [this]; rfl
  refine ⟨fun sl n w' => ∃ k : Nat, n = (k : Nat) ∧ k ≤ c.length ∧ Own w' w.heap.size 3 1 sl (iv (castL ((List.range k).filter P))) ∧ Ext w w', fun _ n _ => (c.length - n).toNat, ⟨0, rfl, Nat.zero_le _, Own.nil _ _ _ _, Ext.refl _⟩, ?_⟩
  rintro _ sl n w1 ⟨k, rfl, hk, o1, x1⟩
  have ek : IntKind.i64.wrap ((k : Int) + 1) = ((k + 1 : Nat) : Int) := by rw [wrap_i64 (by omega) (by omega)]; omega
  rw [ek]
  refine ⟨fun hlt => ?_, fun hge => ?_⟩
  rotate_left
  · have : k = c.length := by omega
    subst this
    rw [hlast] at o1
    exact ⟨sl, rfl, o1, x1⟩
  have hkc : k < c.length := by omega
  refine ⟨(rnext_spec (h.ext x1) hm (k : Nat)).mono ?_⟩
  rintro e w2 ⟨s, rfl, o2, x2⟩
  rw [nextT_nat hkc] at o2
  refine ⟨s, rfl, ⟨(rhas_spec o2.rd x (by have := nxT_le2 c k; rw [castL_len]; omega)).mono ?_⟩⟩
  rintro e w3 ⟨rfl, rfl⟩
  have z1 := x1.size
  have z2 := x2.size
  have hsn := o1.rd.leni
  have hfl : (castL ((List.range k).filter P)).length ≤ k := by
    have := List.length_filter_le P (List.range k)
    rw [castL_len]; rwa [List.length_range] at this
  refine ⟨_, rfl, fun hb w4 n4 => ?_, fun hb => ⟨⟨k + 1, rfl, by omega, ?_, x1.trans x2⟩, by dsimp only; omega⟩⟩
  · have z4 := n4.size
    have rd : Rd w4 1 ⟨some ⟨w3.heap.size, 0, none⟩, 1, 1⟩ (iv [(k : Int)]) := (Blk.new n4).rd (z := 1) (o := 0) (n := 1) (c := 1) (by simp)
    obtain ⟨s', w5, hr, hrn, o5, u5, _⟩ := ((o1.ext x2).ext n4.ext).append (t := 30) (ty := 30) tab_ok (by rfl) (by rfl) (by decide) rd (iv_ones _) (by dsimp only; omega) (by dsimp only; omega) (by omega)
    refine ⟨s', w5, hr, ⟨k + 1, rfl, by omega, ?_, ((x1.trans x2).trans n4.ext).fresh u5 (by rintro j ⟨q, hq, rfl⟩; exact (o1.base q hq).1)⟩, by dsimp only; omega⟩
    rw [List.range_succ, List.filter_append, List.filter_cons, if_pos (by rw [hP]; exact hb), List.filter_nil]
    unfold castL at o5 ⊢
    rw [List.map_append, iv_append]
    exact o5
  · rw [List.range_succ, List.filter_append, List.filter_cons, if_neg (by rw [hP]; show ¬ decide _ = true; rw [hb]; decide), List.filter_nil, List.append_nil]
    exact o1.ext x2
theorem rover_spec (h : Rd w 3 code (cdV c)) (hm : c.length ≤ 1000) (x y : Int) :
    Calls Try.prog 24 #[.slice code.a code.n code.c, .int .i64 x, .int .i64 y] w fun e w' => e = .returned (.bool (overB c x y)) ∧ Ext w w' := by
  refine vc_24 _ _ _ _ _ ?_
  have hn := h.lenc
  have no : ¬ (0 ≤ x ∧ x < c.length ∧ 0 ≤ y ∧ y < c.length ∧ Over c x.toNat y.toNat) → overB c x y = false := fun hh => by unfold overB; rw [decide_eq_false_iff_not]; exact hh
  simp only [eq_self, false_or, or_false, true_and, and_true, decide_eq_true_eq, decide_eq_false_iff_not, gd_st, gd_sf, exists_eq_left', exists_eq_left, Option.some.injEq, Sl.eta, Nat.reduceLeDiff, Int.reduceLE, Int.reduceLT, Int.reduceEq, Int.reduceNe, Nat.reduceMul, Nat.reduceAdd, Nat.reduceSub, Int.toNat_natCast, beq_iff_eq, bne_iff_ne, beq_eq_false_iff_ne, bne_eq_false_iff_eq, pick_and, pick_or, Bool.and_eq_true, Bool.or_eq_true, Bool.and_eq_false_iff, Bool.or_eq_false_iff, ne_eq, not_false_eq_true, Bool.not_eq_true', Bool.not_eq_false', reduceCtorEq, Nat.le_refl, Nat.zero_mul, Nat.mul_one, Nat.zero_add, Int.reduceToNat, ones, one, add_mk, Decidable.not_not, cond_true, cond_false, true_implies, false_implies, implies_true, Bool.not_true, Bool.not_false]
  refine ⟨fun h0 => ⟨fun h1 => ⟨fun h2 => ⟨fun h3 => ?_, fun h3 => ⟨(rreached_spec h hm).mono ?_⟩⟩, fun h2 => ?_⟩, fun h1 => ?_⟩, fun h0 => ?_⟩
  · rw [no fun hh => by omega]; exact ⟨rfl, Ext.refl _⟩
  rotate_left
  · rw [no fun hh => by omega]; exact ⟨rfl, Ext.refl _⟩
  · rw [no fun hh => by omega]; exact ⟨rfl, Ext.refl _⟩
  · rw [no fun hh => by omega]; exact ⟨rfl, Ext.refl _⟩
  obtain ⟨a, rfl⟩ : ∃ a : Nat, x = (a : Nat) := ⟨x.toNat, by omega⟩
  obtain ⟨b, rfl⟩ : ∃ b : Nat, y = (b : Nat) := ⟨y.toNat, by omega⟩
  have hac : a < c.length := by omega
  have hbc : b < c.length := by omega
  rintro e w1 ⟨s, rfl, o1, x1⟩
  refine ⟨s, rfl, ⟨(without_spec (h.ext x1) hm (x := (b : Nat)) (d := b) (fun k hk => by omega) (fun h => by omega)).mono ?_⟩⟩
  rintro e w2 ⟨s2, rfl, o2, x2⟩
  have o1' := o1.ext x2
  have hs1 : c.length = s.n := by simpa using o1'.len1
  have hs2 : c.length = s2.n := by simpa using o2.len1
  obtain ⟨p, hp, hcp⟩ := o1'.rd.2 (by omega)
  obtain ⟨q, hq, hcq⟩ := o2.rd.2 (by omega)
  have g1 : ∀ {k : Nat}, k < c.length → w2.cell? (p.add k) = some (.bool (rB c k)) := fun {k} hk => hcp k _ (by unfold bbv; rw [List.getElem?_map, rcL_get hk]; rfl)
  have g2 : w2.cell? (q.add a) = some (.bool (avB c b a)) := hcq a _ (by unfold bbv; rw [List.getElem?_map, avL_get hac]; rfl)
  have x02 := x1.trans x2
  simp only [Int.toNat_natCast] at no ⊢
  refine ⟨s2, rfl, by omega, by omega, p, hp, _, g1 hac, fun hra => ⟨by omega, by omega, p, hp, _, g1 hbc, fun hrb => ⟨by omega, by omega, q, hq, _, g2, ?_, x02⟩, fun hrb => ⟨?_, x02⟩⟩, fun hra => ⟨?_, x02⟩⟩
  · congr 2
    have h1 := rB_iff.1 hra
    have h2 := rB_iff.1 hrb
    cases hv : avB c b a with
    | true => exact (no fun hh => hh.2.2.2.2.2.2 (avB_iff.1 hv)).symm
    | false =>
      have : overB c (a : Nat) (b : Nat) = true := by
        unfold overB
        simp only [decide_eq_true_eq, Int.toNat_natCast]
        exact ⟨by omega, by omega, by omega, by omega, h1, h2, fun hh => by rw [avB_iff.2 hh] at hv; cases hv⟩
      rw [this]; rfl
  · rw [no fun hh => (by rw [rB_iff.2 hh.2.2.2.2.2.1] at hrb; cases hrb)]
  · rw [no fun hh => (by rw [rB_iff.2 hh.2.2.2.2.1] at hra; cases hra)]
theorem rleader_spec (h : Rd w 3 code (cdV c)) (hr : Rd w 1 rs (bbv (rcL c))) (hm : c.length ≤ 1000) {x : Nat} (hx : x < c.length) :
    Calls Try.prog 37 #[.slice code.a code.n code.c, .slice rs.a rs.n rs.c, .int .i64 (x : Nat)] w fun e w' => e = .returned (.bool (ldB c x)) ∧ Ext w w' := by
  refine vc_37 _ _ _ _ _ ?_
  have hn := h.lenc
  have c0 : c ≠ [] := by rintro rfl; exact absurd hx (Nat.not_lt_zero _)
  have hrn : c.length = rs.n := by simpa using hr.len1
  obtain ⟨p, hp, _⟩ := hr.2 (by omega)
  have g1 : ∀ {w' : World}, Ext w w' → ∀ {k : Nat}, k < c.length → w'.cell? (p.add k) = some (.bool (rB c k)) := fun {w'} u {k} hk => by
    obtain ⟨p', hp', hcp⟩ := (hr.ext u).2 (by omega)
    rw [hp] at hp'; injection hp' with hp'; subst hp'
    exact hcp k _ (by unfold bbv; rw [List.getElem?_map, rcL_get hk]; rfl)
  simp only [eq_self, false_or, or_false, true_and, and_true, decide_eq_true_eq, decide_eq_false_iff_not, gd_st, gd_sf, exists_eq_left', exists_eq_left, Option.some.injEq, Sl.eta, Nat.reduceLeDiff, Int.reduceLE, Int.reduceLT, Int.reduceEq, Int.reduceNe, Nat.reduceMul, Nat.reduceAdd, Nat.reduceSub, Int.toNat_natCast, beq_iff_eq, bne_iff_ne, beq_eq_false_iff_ne, bne_eq_false_iff_eq, pick_and, pick_or, Bool.and_eq_true, Bool.or_eq_true, Bool.and_eq_false_iff, Bool.or_eq_false_iff, ne_eq, not_false_eq_true, Bool.not_eq_true', Bool.not_eq_false', reduceCtorEq, Nat.le_refl, Nat.zero_mul, Nat.mul_one, Nat.zero_add, Int.reduceToNat, ones, one, add_mk, Decidable.not_not, cond_true, cond_false, true_implies, false_implies, implies_true, Bool.not_true, Bool.not_false]
  refine ⟨fun h0 => ⟨fun h1 => ⟨by omega, by omega, p, hp, _, g1 (Ext.refl _) hx, fun hrx => ⟨?_, Ext.refl _⟩, fun hrx => ⟨fun h2 => ⟨?_, Ext.refl _⟩, fun h2 => ?_⟩⟩, fun h1 => absurd h1 (by omega)⟩, fun h0 => absurd h0 (by omega)⟩
  · have : ldB c x = false := by
      cases hl : ldB c x with
      | false => rfl
      | true => have := (ldB_iff.1 hl).1; rw [rB_iff.2 this] at hrx; cases hrx
    rw [this]
  · have : x = 0 := by omega
    subst this
    rw [ldB_iff.2 ⟨Rc_zero c0, .inl rfl⟩]
  have rx := rB_iff.1 hrx
  have e1 : IntKind.i64.wrap ((x : Int) - 1) = (x : Int) - 1 := wrap_i64 (by omega) (by omega)
  rw [e1]
  have yes : ∀ {f : Nat}, x ∈ nxT c f → Rc c f → (f + 1 ≠ x ∨ 1 < (nxT c f).length) → ldB c x = true := fun {f} hm hf hh => ldB_iff.2 ⟨rx, .inr ⟨f, hm, hf, hh⟩⟩
  refine ⟨fun m n w' => ∃ k a : Nat, n = (k : Nat) ∧ m = (a : Nat) ∧ k ≤ c.length ∧ a ≤ 1 ∧ (k < x → a = 0) ∧ (∀ f, f < k → x ∈ nxT c f → Rc c f → f + 1 = x ∧ ¬ 1 < (nxT c f).length) ∧ Ext w w', fun _ n _ => (c.length - n).toNat,
    ⟨0, 0, rfl, rfl, Nat.zero_le _, by omega, fun _ => rfl, fun f hf => absurd hf (Nat.not_lt_zero _), Ext.refl _⟩, ?_⟩
  rintro _ m n w1 ⟨k, a, rfl, rfl, hk, ha, hka, hall, x1⟩
  have ek : IntKind.i64.wrap ((k : Int) + 1) = ((k + 1 : Nat) : Int) := by rw [wrap_i64 (by omega) (by omega)]; omega
  have ea : IntKind.i64.wrap ((a : Int) + 1) = ((a + 1 : Nat) : Int) := by rw [wrap_i64 (by omega) (by omega)]; omega
  rw [ek, ea]
  refine ⟨fun hlt => ?_, fun hge => ⟨?_, x1⟩⟩
  rotate_left
  · have : k = c.length := by omega
    subst this
    have h1 : ¬ (1 : Int) < (a : Nat) := by omega
    rw [decide_eq_false h1]
    cases hl : ldB c x with
    | false => rfl
    | true =>
      obtain ⟨_, h3 | ⟨f, hf, hrf, hh⟩⟩ := ldB_iff.1 hl
      · omega
      · have := hall f (Rc_lt hrf) hf hrf
        rcases hh with hh | hh
        · exact absurd this.1 hh
        · exact absurd hh this.2
  have hkc : k < c.length := by omega
  refine ⟨(rnext_spec (h.ext x1) hm (k : Nat)).mono ?_⟩
  rintro e w2 ⟨s, rfl, o2, x2⟩
  rw [nextT_nat hkc] at o2
  have hsn := o2.rd.leni
  rw [castL_len] at hsn
  refine ⟨s, rfl, ⟨(rhas_spec o2.rd (x : Nat) (by have := nxT_le2 c k; rw [castL_len]; omega)).mono ?_⟩⟩
  rintro e w3 ⟨rfl, rfl⟩
  have x3 := x1.trans x2
  have hmm : ((x : Nat) : Int) ∈ castL (nxT c k) ↔ x ∈ nxT c k := by rw [hasV, Int.toNat_natCast]; exact ⟨fun h => h.2, fun h => ⟨by omega, h⟩⟩
  have skip : (x ∈ nxT c k → Rc c k → k + 1 = x ∧ ¬ 1 < (nxT c k).length) → ∀ f, f < k + 1 → x ∈ nxT c f → Rc c f → f + 1 = x ∧ ¬ 1 < (nxT c f).length := fun hh f hf h1 h2 => by
    rcases Nat.lt_or_ge f k with h3 | h3
    · exact hall f h3 h1 h2
    · have : f = k := by omega
      subst this; exact hh h1 h2
  refine ⟨_, rfl, fun hb => ⟨by omega, by omega, p, hp, _, by rw [Int.toNat_natCast]; exact g1 x3 hkc, fun hrf => ⟨⟨k + 1, a, rfl, rfl, by omega, ha, fun h => hka (by omega), skip fun _ hh => (by rw [rB_iff.2 hh] at hrf; cases hrf), x3⟩, by dsimp only; omega⟩, fun hrf => ⟨fun he => ⟨fun hl => ⟨?_, x3⟩, fun hl => ⟨⟨k + 1, a + 1, rfl, rfl, by omega, ?_, fun h => by omega, skip fun _ _ => ⟨by omega, by omega⟩, x3⟩, by dsimp only; omega⟩⟩, fun he => ⟨?_, x3⟩⟩⟩, fun hb => ⟨⟨k + 1, a, rfl, rfl, by omega, ha, fun h => hka (by omega), skip fun hh => absurd (hmm.2 hh) (of_decide_eq_false hb), x3⟩, by dsimp only; omega⟩⟩
  · rw [yes (hmm.1 (of_decide_eq_true hb)) (rB_iff.1 hrf) (.inr (by omega))]
  · have := hka (by omega); omega
  · rw [yes (hmm.1 (of_decide_eq_true hb)) (rB_iff.1 hrf) (.inl (by omega))]
end
end Go.Proofs.Ytilaeefmfiihlaa.V
