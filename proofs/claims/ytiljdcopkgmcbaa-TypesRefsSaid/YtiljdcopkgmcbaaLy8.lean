/-
  The laws of types: Refs.
-/
import Derived.Test.YtiljdcopkgmcbaaLy7
namespace Go.Proofs.Ytiljdcopkgmcbaa.V
open Go Go.RowKit
set_option linter.unusedVariables false
set_option linter.unusedSimpArgs false
set_option maxRecDepth 100000

theorem shr_zero {x n : Nat} (h : x < 2 ^ n) (hn : n ≤ 64) : shrV .u64 (x : Int) (IntKind.u64.wrap (n : Int)) = 0 := by
  rw [wrap_u64 (by omega) (by omega), shr_nat .u64 x n hn, Nat.div_eq_of_lt h]; rfl
theorem bit_at {x n : Nat} (hx : x < 18446744073709551616) (hn : n ≤ 64) : (bitV .and .u64 (shrV .u64 (x : Int) (IntKind.u64.wrap (n : Int))) 1 == 1) = x.testBit n := by
  rw [wrap_u64 (by omega) (by omega), shr_nat .u64 x n hn, show (1 : Int) = ((1 : Nat) : Int) from rfl, and_u64 _ _ (Nat.lt_of_le_of_lt (Nat.div_le_self _ _) hx) (by decide), Nat.and_one_is_mod, Nat.testBit_eq_decide_div_mod_eq]
  rw [Bool.eq_iff_iff]
  simp only [beq_iff_eq, decide_eq_true_eq]
  omega
theorem bitsT_at (L : List Ty) (l : List Int) (k i : Nat) {p : Int} (hp : l[i]? = some p) : (bitsT L l k).testBit (i + k) = refT L p := by
  rw [bitsT_test, Bool.eq_iff_iff]
  simp only [decide_eq_true_eq, Nat.add_sub_cancel]
  constructor
  · rintro ⟨_, q, hq, hr⟩
    rw [hp] at hq; injection hq with hq; subst hq; exact hr
  · intro hr
    exact ⟨by omega, p, hp, hr⟩
theorem typesrefs_walk (w : World) (v0 v1 v2 : Value) (x0 : (Dt.sl 40 TyR).T) (n : Int) (x2 : (Dt.sl 8 (.cons (.int .i64) .nil)).T) (h0 : (Par.one (.sl 40 TyR)).Is w v0 x0) (h1 : (Par.one (.int .i64)).Is w v1 n)
    (h2 : (Par.one (.sl 8 (.cons (.int .i64) .nil))).Is w v2 x2) :
    Calls Try.prog 10 #[v0, v1, v2] w fun e w' => e = .returned (.bool true) ∧ Ext w w' := by
  obtain ⟨T, rfl, hc, hn, hT, ha⟩ := is_types h0
  obtain ⟨rfl, hn64⟩ := h1
  have hn64 := wf_i64 hn64
  obtain ⟨rfl, hsc, hsn, _, hS, hsw⟩ := is_nums h2
  obtain ⟨l, xl⟩ := x0
  obtain ⟨cp, xc⟩ := x2
  clear h0 h2
  dsimp only at *
  obtain ⟨cs, hcs⟩ : ∃ cs : List Int, (xc.map fun y => Value.int .i64 y.1) = iv cs := ⟨xc.map fun y => y.1, Eq.symm (by unfold iv; exact List.map_map)⟩
  rw [hcs] at hS
  clear hsw
  refine vc_10 l n cp _ _ ?_
  simp only [eq_self, false_or, or_false, true_and, and_true, decide_eq_true_eq, decide_eq_false_iff_not, gd_st, gd_sf, exists_eq_left', exists_eq_left, Option.some.injEq, Sl.eta, Nat.reduceLeDiff, Int.reduceLE, Int.reduceLT, Int.reduceEq, Int.reduceNe, Nat.reduceMul, Nat.reduceAdd, Nat.reduceSub, Int.toNat_natCast, beq_iff_eq, bne_iff_ne, beq_eq_false_iff_ne, bne_eq_false_iff_eq, pick_and, pick_or, Bool.and_eq_true, Bool.or_eq_true, Bool.and_eq_false_iff, Bool.or_eq_false_iff, ne_eq, not_false_eq_true, Bool.not_eq_true', Bool.not_eq_false', reduceCtorEq, Nat.le_refl, Nat.zero_mul, Nat.mul_one, Nat.zero_add, Int.reduceToNat, ones, one, add_mk, Decidable.not_not, cond_true, cond_false, true_implies, false_implies, implies_true, Bool.not_true, Bool.not_false]
  refine ⟨(shown_spec w).mono ?_⟩
  rintro e w1 ⟨rfl, x1⟩
  refine ⟨_, rfl, ⟨(New_spec (hT.ext x1) ha.p15).mono ?_⟩⟩
  rintro e w2 ⟨x2, ⟨hne, rfl⟩ | ⟨he, g, rfl, ht⟩⟩
  · exact ⟨_, _, rfl, fun _ => ⟨fun _ => ⟨rfl, x1.trans x2⟩, fun h => (hne h).elim⟩, fun h => (by cases h)⟩
  have hR := rightT_ok.1 he
  generalize T.map (·.1) = L at ht hR
  have hlc := hS.leni
  have x02 : Ext w w2 := x1.trans x2
  refine ⟨_, _, rfl, fun _ => ⟨fun h => (h rfl).elim, fun _ => ⟨(record_spec ht n).mono ?_⟩⟩, fun h => (by cases h)⟩
  rintro e w3 ⟨rfl, x3⟩
  refine ⟨_, _, _, _, _, rfl, fun w4 n4 => ⟨rfl, (Blk.new n4).canSetN 0 4 (by simp), fun w5 s5 => ?_⟩⟩
  have k5 := hd_set (Blk.new n4) s5
  have x35 : Ext w3 w5 := n4.ext.fresh s5.upd (by rintro i rfl; exact Nat.le_refl _)
  have x25 := x3.trans x35
  refine ⟨fun w' => Ext w2 w', ⟨fun hb => ⟨(parts_spec (ht.ext x25) n).mono ?_⟩, fun _ => x25⟩, ?_⟩
  · have hk : kindT L n = 2 := by
      unfold recordT at hb
      by_cases h : kindT L n = 2
      · exact h
      · rw [if_neg h] at hb; cases hb
    have hrec : (recordT L n).1 = ⟨1, n, (partsT L n).length, bitsT L (partsT L n) 0⟩ := by unfold recordT; rw [if_pos hk]
    rw [hrec] at k5
    have h12 := partsT_12 hR n
    have hlt := bitsT_lt L (partsT L n) 0 (partsT L n).length (by omega)
    have hlt64 : bitsT L (partsT L n) 0 < 18446744073709551616 := Nat.lt_of_lt_of_le hlt (Nat.pow_le_pow_right (n := 2) (j := 64) (by decide) (by omega))
    rintro e w6 ⟨s, rfl, o6, x6⟩
    have k6 := k5.ext x6
    have hs := o6.rd.leni
    simp only [k6.cell, List.getElem?_cons_zero, List.getElem?_cons_succ, ex_sl, Value.int.injEq, Value.bool.injEq, Value.pointer.injEq, Value.string.injEq, eq_self, false_or, or_false, true_and, and_true, decide_eq_true_eq, decide_eq_false_iff_not, gd_st, gd_sf, exists_eq_left', exists_eq_left, Option.some.injEq, Sl.eta, Nat.reduceLeDiff, Int.reduceLE, Int.reduceLT, Int.reduceEq, Int.reduceNe, Nat.reduceMul, Nat.reduceAdd, Nat.reduceSub, Int.toNat_natCast, beq_iff_eq, bne_iff_ne, beq_eq_false_iff_ne, bne_eq_false_iff_eq, pick_and, pick_or, Bool.and_eq_true, Bool.or_eq_true, Bool.and_eq_false_iff, Bool.or_eq_false_iff, ne_eq, not_false_eq_true, Bool.not_eq_true', Bool.not_eq_false', reduceCtorEq, Nat.le_refl, Nat.zero_mul, Nat.mul_one, Nat.zero_add, Int.reduceToNat, ones, one, add_mk, Decidable.not_not, cond_true, cond_false, true_implies, false_implies, implies_true, Bool.not_true, Bool.not_false]
    refine ⟨s, rfl, fun _ => ⟨⟨⟨?_, fun h => ?_, fun _ => ?_⟩, fun h => (h trivial).elim⟩, fun h => (h trivial).elim⟩, fun h => (h (by omega)).elim⟩
    · rw [wrap_u64 (by omega) (by omega)]; omega
    · refine (h (shr_zero ?_ (by omega))).elim
      rw [← hs]; exact hlt
    · refine ⟨fun i w' => 0 ≤ i ∧ i ≤ s.n ∧ Ext w6 w', fun i _ => (s.n - i).toNat, ⟨by omega, by omega, .refl _⟩, ?_⟩
      rintro _ i w7 ⟨i0, i1, x7⟩
      refine ⟨fun hi w8 q8 => ?_, fun hi => (x25.trans x6).trans x7⟩
      have x8 := x7.trans q8.ext
      have k8 := k6.ext x8
      obtain ⟨i, rfl⟩ : ∃ j : Nat, i = j := ⟨i.toNat, by omega⟩
      obtain ⟨p, v, hp, hv, hcv⟩ := (o6.rd.ext x8).intl i (by omega)
      rw [Nat.mul_one] at hcv
      refine ⟨fun _ => False, _, fun w' u => (k8.ext u).cell 3, ?_, i0, hi, p, hp, v, fun w' u => Upd.cell u hcv not_false, ⟨(ref_spec (ht.ext ((x25.trans x6).trans x8)) v).mono ?_⟩⟩
      · rw [wrap_u64 (by omega) (by omega)]; omega
      rintro e _ ⟨rfl, rfl⟩
      refine ⟨_, rfl, .refl _ _, fun h => ?_, fun _ => ⟨⟨by (first | (rw [wrap_i64 (by omega) (by omega)]; omega) | (dsimp only; rw [wrap_i64 (by omega) (by omega)]; omega) | (dsimp only; omega)), by (first | (rw [wrap_i64 (by omega) (by omega)]; omega) | (dsimp only; rw [wrap_i64 (by omega) (by omega)]; omega) | (dsimp only; omega)), x8⟩, by (first | (rw [wrap_i64 (by omega) (by omega)]; omega) | (dsimp only; rw [wrap_i64 (by omega) (by omega)]; omega) | (dsimp only; omega))⟩⟩
      refine (h ?_).elim
      rw [bit_at hlt64 (by omega)]
      exact bitsT_at L _ 0 i hv
  rintro _ w6 x6
  refine ⟨(closure_spec (ht.ext x6) n (hS.ext (x02.trans x6)) (by omega)).mono ?_⟩
  rintro e w7 ⟨rfl, x7⟩
  refine ⟨_, _, _, _, _, rfl, fun w8 n8 => ⟨rfl, (Blk.new n8).canSetN 0 4 (by simp), fun w9 s9 => ?_⟩⟩
  have k9 := hd_set (Blk.new n8) s9
  have x79 : Ext w7 w9 := n8.ext.fresh s9.upd (by rintro i rfl; exact Nat.le_refl _)
  have x29 := x6.trans (x7.trans x79)
  refine ⟨fun w' => Ext w2 w', ⟨fun hb => ?_, fun _ => x29⟩, ?_⟩
  · have hk : kindT L n = 4 ∧ cs.length < 32 := by
      unfold closureT at hb
      by_cases h : kindT L n = 4 ∧ cs.length < 32 ∧ ∀ x ∈ cs, 0 ≤ kindT L x
      · exact ⟨h.1, h.2.1⟩
      · rw [if_neg h] at hb; cases hb
    have hclo : (closureT L n cs).1 = ⟨1, n, cs.length + 1, bitsT L cs 1⟩ := by
      unfold closureT at hb ⊢
      by_cases h : kindT L n = 4 ∧ cs.length < 32 ∧ ∀ x ∈ cs, 0 ≤ kindT L x
      · rw [if_pos h]
      · rw [if_neg h] at hb; cases hb
    have hrec : (recordT L n).2 = false := by unfold recordT; rw [if_neg (by omega)]
    have hlt := bitsT_lt L cs 1 (cs.length + 1) (by omega)
    have hlt64 : bitsT L cs 1 < 18446744073709551616 := Nat.lt_of_lt_of_le hlt (Nat.pow_le_pow_right (n := 2) (j := 64) (by decide) (by omega))
    rw [hclo] at k9
    dsimp only at k9
    simp only [k9.cell, List.getElem?_cons_zero, List.getElem?_cons_succ, ex_sl, Value.int.injEq, Value.bool.injEq, Value.pointer.injEq, Value.string.injEq, eq_self, false_or, or_false, true_and, and_true, decide_eq_true_eq, decide_eq_false_iff_not, gd_st, gd_sf, exists_eq_left', exists_eq_left, Option.some.injEq, Sl.eta, Nat.reduceLeDiff, Int.reduceLE, Int.reduceLT, Int.reduceEq, Int.reduceNe, Nat.reduceMul, Nat.reduceAdd, Nat.reduceSub, Int.toNat_natCast, beq_iff_eq, bne_iff_ne, beq_eq_false_iff_ne, bne_eq_false_iff_eq, pick_and, pick_or, Bool.and_eq_true, Bool.or_eq_true, Bool.and_eq_false_iff, Bool.or_eq_false_iff, ne_eq, not_false_eq_true, Bool.not_eq_true', Bool.not_eq_false', reduceCtorEq, Nat.le_refl, Nat.zero_mul, Nat.mul_one, Nat.zero_add, Int.reduceToNat, ones, one, add_mk, Decidable.not_not, cond_true, cond_false, true_implies, false_implies, implies_true, Bool.not_true, Bool.not_false]
    rw [wrap_i64 (n := (cp.n : Int) + 1) (by omega) (by omega)]
    refine ⟨fun _ => ⟨fun _ => ⟨fun _ => ⟨fun _ => ⟨?_, fun h => ?_, fun _ => ?_⟩, fun h => ?_⟩, fun h => ?_⟩, fun h => ?_⟩, fun h => ?_⟩
    · rw [wrap_u64 (by omega) (by omega)]; omega
    · refine (h ?_).elim
      rw [show ((cs.length : Int) + 1) = ((cs.length + 1 : Nat) : Int) by omega]
      exact shr_zero hlt (by omega)
    · refine ⟨fun i w' => 0 ≤ i ∧ i ≤ cp.n ∧ Ext w9 w', fun i _ => (cp.n - i).toNat, ⟨by omega, by omega, .refl _⟩, ?_⟩
      rintro _ i w10 ⟨i0, i1, x10⟩
      refine ⟨fun hi w11 q11 => ?_, fun hi => x29.trans x10⟩
      have x11 := x10.trans q11.ext
      have k11 := k9.ext x11
      obtain ⟨i, rfl⟩ : ∃ j : Nat, i = j := ⟨i.toNat, by omega⟩
      obtain ⟨p, v, hp, hv, hcv⟩ := (hS.ext ((x02.trans x29).trans x11)).intl i (by omega)
      rw [Nat.mul_one] at hcv
      rw [wrap_i64 (n := (i : Int) + 1) (by omega) (by omega), show ((i : Int) + 1) = ((i + 1 : Nat) : Int) by omega]
      refine ⟨fun _ => False, _, fun w' u => (k11.ext u).cell 3, ?_, i0, hi, p, hp, v, fun w' u => Upd.cell u hcv not_false, ⟨(ref_spec (ht.ext (x29.trans x11)) v).mono ?_⟩⟩
      · rw [wrap_u64 (by omega) (by omega)]; omega
      rintro e _ ⟨rfl, rfl⟩
      refine ⟨_, rfl, .refl _ _, fun h => ?_, fun _ => ⟨⟨by omega, by omega, x11⟩, by (first | (rw [wrap_i64 (by omega) (by omega)]; omega) | (dsimp only; rw [wrap_i64 (by omega) (by omega)]; omega) | (dsimp only; omega))⟩⟩
      refine (h ?_).elim
      rw [bit_at hlt64 (by omega)]
      exact bitsT_at L _ 1 i hv
    · refine (h ?_).elim
      rw [show (1 : Int) = ((1 : Nat) : Int) from rfl, and_u64 _ _ hlt64 (by decide), Nat.and_one_is_mod]
      have := bitsT_test L cs 1 0
      rw [Nat.testBit_eq_decide_div_mod_eq] at this
      simp at this
      omega
    · exfalso; omega
    · exfalso; omega
    · rw [hrec] at h; cases h
  rintro _ w10 x10
  refine ⟨(array_spec (ht.ext x10) n 7).mono ?_⟩
  rintro e w11 ⟨rfl, x11⟩
  refine ⟨_, _, _, _, _, rfl, fun w12 n12 => ⟨rfl, (Blk.new n12).canSetN 0 4 (by simp), fun w13 s13 => ?_⟩⟩
  have k13 := hd_set (Blk.new n12) s13
  have x1113 : Ext w11 w13 := n12.ext.fresh s13.upd (by rintro i rfl; exact Nat.le_refl _)
  have x213 := x10.trans (x11.trans x1113)
  refine ⟨fun hb w14 q14 => ?_, fun hb => ⟨(kind_spec (ht.ext x213) n).mono ?_⟩⟩
  · have k14 := k13.ext q14.ext
    have hk : kindT L n = 3 := by
      unfold arrayT at hb
      by_cases h : kindT L n = 3 ∧ 0 ≤ (7 : Int) ∧ (7 : Int) ≤ 1000
      · exact h.1
      · rw [if_neg h] at hb; cases hb
    have harr : (arrayT L n 7).1 = ⟨if refT L (ofT L n) = true then 3 else 2, n, 7, 0⟩ := by unfold arrayT; rw [if_pos ⟨hk, by decide, by decide⟩]
    have hrec : (recordT L n).2 = false := by unfold recordT; rw [if_neg (by omega)]
    have hclo : (closureT L n cs).2 = false := by unfold closureT; rw [if_neg (by omega)]
    rw [harr] at k14
    rw [hrec, hclo]
    have x14 := x213.trans q14.ext
    refine ⟨fun _ => False, fun _ => ⟨fun _ => ⟨_, fun w' u => (k14.ext u).cell 3, fun _ => ⟨_, fun w' u => (k14.ext u).cell 2, fun _ => ⟨_, fun w' u => (k14.ext u).cell 0, ⟨(of_spec (ht.ext x14) n).mono ?_⟩⟩, fun h => (h rfl).elim⟩, fun h => (h rfl).elim⟩, fun h => (by cases h)⟩, fun h => (by cases h)⟩
    rintro e _ ⟨rfl, rfl⟩
    refine ⟨_, rfl, .refl _ _, ⟨(ref_spec (ht.ext x14) _).mono ?_⟩⟩
    rintro e _ ⟨rfl, rfl⟩
    refine ⟨_, rfl, .refl _ _, rb ?_, x02.trans x14⟩
    cases refT L (ofT L n) <;> rfl
  · rintro e _ ⟨rfl, rfl⟩
    refine ⟨_, rfl, rb ?_, x02.trans x213⟩
    unfold recordT
    by_cases h : kindT L n = 2
    · rw [if_pos h]; simp [h]
    · rw [if_neg h]; simp [h]
end Go.Proofs.Ytiljdcopkgmcbaa.V
