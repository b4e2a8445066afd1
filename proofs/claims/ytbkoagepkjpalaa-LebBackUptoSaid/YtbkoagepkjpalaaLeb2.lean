/-
  What the document has for writing numbers, and the law's own small functions.
-/
import Derived.Test.YtbkoagepkjpalaaLeb1
namespace Go.Proofs.Ytbkoagepkjpalaa.V
open Go Go.RowKit
set_option linter.unusedVariables false
set_option linter.unusedSimpArgs false

theorem refform_spec (n : Nat) (w : World) (hn : n < 18446744073709551616) :
    Calls Try.prog 30 #[.int .u64 n] w fun e w' =>
      ∃ r : Sl, e = .returned (.slice r.a r.n r.c) ∧ Own w' w.heap.size 5 1 r (bv (form n)) ∧ Ext w w' := by
  refine vc_30 _ _ _ ?_
  simp only [eq_self, true_and, and_true, decide_eq_true_eq, decide_eq_false_iff_not, gd_st, gd_sf, exists_eq_left', exists_eq_left, Option.some.injEq, Sl.eta, Nat.reduceLeDiff, Int.reduceLE, Int.reduceLT, Int.reduceEq, Int.reduceNe, Nat.reduceMul, Nat.reduceAdd, Nat.reduceSub, Int.toNat_natCast, beq_iff_eq, bne_iff_ne, beq_eq_false_iff_ne, bne_eq_false_iff_eq, pick_and, pick_or, Bool.and_eq_true, Bool.or_eq_true, Bool.and_eq_false_iff, Bool.or_eq_false_iff, ne_eq, not_false_eq_true, Bool.not_eq_true', Bool.not_eq_false', reduceCtorEq, Nat.le_refl, Nat.zero_mul, Nat.mul_one, Nat.zero_add, Int.reduceToNat, ones, one, add_mk, Decidable.not_not, cond_true, cond_false, true_implies, false_implies, implies_true, Bool.not_true, Bool.not_false]
  intro w1 h1
  have ho1 : Own w1 w.heap.size 5 1 ⟨some ⟨w.heap.size, 0, none⟩, 0, 0⟩ (bv []) := Own.lit (cs := []) h1 (Nat.le_refl _) rfl (by omega)
  refine ⟨fun m s' w' => ∃ (k : Nat) (acc : List Nat), m = (k : Int) ∧ k ≤ n ∧ acc ++ form k = form n ∧ Own w' w.heap.size 5 1 s' (bv acc) ∧ Ext w w', fun m _ _ => m.toNat,
    ⟨n, [], rfl, Nat.le_refl _, rfl, ho1, h1.ext⟩, ?_⟩
  rintro _ m s' w' ⟨k, acc, rfl, hkn, hacc, ho, hx⟩
  have hlen := form_len n hn
  have hlacc : acc.length + (form k).length ≤ 10 := by rw [← List.length_append, hacc]; exact hlen
  have hfp := form_pos k
  have hsn : s'.n = acc.length := by
    have := ho.len1
    rw [bv_length] at this
    omega
  refine ⟨fun hk w3 h3 => ?_, fun hk w3 h3 => ?_⟩
  · have hb : ¬ k < 128 := by omega
    have e1 : IntKind.u8.wrap (IntKind.u64.wrap (128 + (k : Int).tmod 128)) = ((128 + k % 128 : Nat) : Int) := by
      rw [wrap_u8', wrap_u64', Int.tmod_eq_emod_of_nonneg (by omega)]; omega
    have e2 : IntKind.u64.wrap ((k : Int).tdiv 128) = ((k / 128 : Nat) : Int) := by
      rw [wrap_u64', Int.tdiv_eq_ediv_of_nonneg (by omega)]; omega
    obtain ⟨r, w4, hap, hrn, ho4, hu4, _⟩ := app_byte ho h3 e1 (by omega) hx.size
    refine ⟨r, w4, hap, ⟨k / 128, acc ++ [128 + k % 128], e2, by omega, by rw [← hacc, form_big hb]; simp, ho4, ?_⟩, ?_⟩
    · exact hx.fresh hu4 (by rintro i ⟨p, hp, rfl⟩; exact (ho.base p hp).1)
    · rw [e2]
      show ((k / 128 : Nat) : Int).toNat < (k : Int).toNat
      omega
  · have hb : k < 128 := by omega
    obtain ⟨r, w4, hap, hrn, ho4, hu4, _⟩ := app_byte (x := k) ho h3 (by rw [wrap_u8']; omega) (by omega) hx.size
    refine ⟨r, w4, hap, r, rfl, ?_, ?_⟩
    · rw [← hacc, form_small hb]
      exact ho4
    · exact hx.fresh hu4 (by rintro i ⟨p, hp, rfl⟩; exact (ho.base p hp).1)

theorem refput_spec (s : Sl) (xs : List Nat) (n : Nat) (w : World) (hr : Rd w 1 s (bv xs)) (hn : n < 18446744073709551616) (hl : s.n ≤ 140737488355300) :
    Calls Try.prog 13 #[.slice s.a s.n s.c, .int .u64 n] w fun e w' =>
      ∃ r : Sl, e = .returned (.slice r.a r.n r.c) ∧ Own w' w.heap.size 5 1 r (bv (xs ++ form n)) ∧ Ext w w' := by
  refine vc_13 _ _ _ _ ?_
  simp only [eq_self, true_and, and_true, decide_eq_true_eq, decide_eq_false_iff_not, gd_st, gd_sf, exists_eq_left', exists_eq_left, Option.some.injEq, Sl.eta, Nat.reduceLeDiff, Int.reduceLE, Int.reduceLT, Int.reduceEq, Int.reduceNe, Nat.reduceMul, Nat.reduceAdd, Nat.reduceSub, Int.toNat_natCast, beq_iff_eq, bne_iff_ne, beq_eq_false_iff_ne, bne_eq_false_iff_eq, pick_and, pick_or, Bool.and_eq_true, Bool.or_eq_true, Bool.and_eq_false_iff, Bool.or_eq_false_iff, ne_eq, not_false_eq_true, Bool.not_eq_true', Bool.not_eq_false', reduceCtorEq, Nat.le_refl, Nat.zero_mul, Nat.mul_one, Nat.zero_add, Int.reduceToNat, ones, one, add_mk, Decidable.not_not, cond_true, cond_false, true_implies, false_implies, implies_true, Bool.not_true, Bool.not_false]
  intro w1 h1
  have ho1 : Own w1 w.heap.size 5 1 ⟨some ⟨w.heap.size, 0, none⟩, 0, 0⟩ (bv []) := Own.lit (cs := []) h1 (Nat.le_refl _) rfl (by omega)
  obtain ⟨r, w2, hap, hrn, ho2, hu2, hn2⟩ := ho1.append (t := 22) (ty := 22) tab_ok rfl rfl (by decide) (hr.ext h1.ext) (bv_ones xs) (by simp; omega) (by simp; omega) h1.ext.size
  have hx2 : Ext w w2 := h1.ext.fresh hu2 (by rintro i ⟨p, hp, rfl⟩; exact (ho1.base p hp).1)
  rw [← bv_append, List.nil_append] at ho2
  refine ⟨r, w2, hap, ⟨(refform_spec n w2 hn).mono ?_⟩⟩
  rintro e w3 ⟨f, rfl, hof, hx3⟩
  have hfl := form_len n hn
  have hfn := hof.len1
  have h2n := ho2.len1
  have hxl := hr.lenb
  rw [bv_length] at hfn h2n
  obtain ⟨q, w4, hap4, hqn, ho4, hu4, _⟩ := (ho2.ext hx3).append (t := 22) (ty := 22) tab_ok rfl rfl (by decide) hof.rd (bv_ones _) (by omega) (by omega) (hx2.trans hx3).size
  refine ⟨f, rfl, q, w4, hap4, q, rfl, ?_, ?_⟩
  · rw [bv_append]; exact ho4
  · exact (hx2.trans hx3).fresh hu4 (by rintro i ⟨p, hp, rfl⟩; exact (ho2.base p hp).1)

theorem fold_spec (n : Int) (w : World) (h0 : -9223372036854775808 ≤ n) (h1 : n ≤ 9223372036854775807) :
    Calls Try.prog 31 #[.int .i64 n] w fun e w' => e = .returned (.int .u64 (fold n)) ∧ w' = w := by
  refine vc_31 _ _ _ ?_
  simp only [eq_self, true_and, and_true, decide_eq_true_eq, decide_eq_false_iff_not, gd_st, gd_sf, exists_eq_left', exists_eq_left, Option.some.injEq, Sl.eta, Nat.reduceLeDiff, Int.reduceLE, Int.reduceLT, Int.reduceEq, Int.reduceNe, Nat.reduceMul, Nat.reduceAdd, Nat.reduceSub, Int.toNat_natCast, beq_iff_eq, bne_iff_ne, beq_eq_false_iff_ne, bne_eq_false_iff_eq, pick_and, pick_or, Bool.and_eq_true, Bool.or_eq_true, Bool.and_eq_false_iff, Bool.or_eq_false_iff, ne_eq, not_false_eq_true, Bool.not_eq_true', Bool.not_eq_false', reduceCtorEq, Nat.le_refl, Nat.zero_mul, Nat.mul_one, Nat.zero_add, Int.reduceToNat, ones, one, add_mk, Decidable.not_not, cond_true, cond_false, true_implies, false_implies, implies_true, Bool.not_true, Bool.not_false]
  have e1 : IntKind.i64.wrap (n + 1) = if n = 9223372036854775807 then -9223372036854775808 else n + 1 := by rw [wrap_i64']; split <;> omega
  refine ⟨fun hn => ?_, fun hn => ?_⟩
  · rw [e1, if_neg (by omega), wrap_i64 (n := 0 - (n + 1)) (by omega) (by omega)]
    simp only [wrap_u64']
    congr 2
    unfold fold
    rw [if_pos hn]; omega
  · simp only [wrap_u64']
    congr 2
    unfold fold
    rw [if_neg hn]; omega

theorem refputint_spec (s : Sl) (xs : List Nat) (n : Int) (w : World) (hr : Rd w 1 s (bv xs)) (h0 : -9223372036854775808 ≤ n) (h1 : n ≤ 9223372036854775807) (hl : s.n ≤ 140737488355300) :
    Calls Try.prog 14 #[.slice s.a s.n s.c, .int .i64 n] w fun e w' =>
      ∃ r : Sl, e = .returned (.slice r.a r.n r.c) ∧ Own w' w.heap.size 5 1 r (bv (xs ++ form (fold n))) ∧ Ext w w' := by
  refine vc_14 _ _ _ _ ?_
  simp only [eq_self, true_and, and_true, decide_eq_true_eq, decide_eq_false_iff_not, gd_st, gd_sf, exists_eq_left', exists_eq_left, Option.some.injEq, Sl.eta, Nat.reduceLeDiff, Int.reduceLE, Int.reduceLT, Int.reduceEq, Int.reduceNe, Nat.reduceMul, Nat.reduceAdd, Nat.reduceSub, Int.toNat_natCast, beq_iff_eq, bne_iff_ne, beq_eq_false_iff_ne, bne_eq_false_iff_eq, pick_and, pick_or, Bool.and_eq_true, Bool.or_eq_true, Bool.and_eq_false_iff, Bool.or_eq_false_iff, ne_eq, not_false_eq_true, Bool.not_eq_true', Bool.not_eq_false', reduceCtorEq, Nat.le_refl, Nat.zero_mul, Nat.mul_one, Nat.zero_add, Int.reduceToNat, ones, one, add_mk, Decidable.not_not, cond_true, cond_false, true_implies, false_implies, implies_true, Bool.not_true, Bool.not_false]
  refine ⟨(fold_spec n w h0 h1).mono ?_⟩
  rintro e w' ⟨rfl, rfl⟩
  refine ⟨_, rfl, ⟨(refput_spec s xs (fold n) _ hr (fold_lt h0 h1) hl).mono ?_⟩⟩
  rintro e w2 ⟨r, rfl, ho, hx⟩
  exact ⟨r, rfl, r, rfl, ho, hx⟩

theorem refsize_spec (n : Nat) (w : World) (hn : n < 18446744073709551616) :
    Calls Try.prog 17 #[.int .u64 n] w fun e w' => e = .returned (.int .i64 (form n).length) ∧ Ext w w' := by
  refine vc_17 _ _ _ ?_
  simp only [eq_self, true_and, and_true, decide_eq_true_eq, decide_eq_false_iff_not, gd_st, gd_sf, exists_eq_left', exists_eq_left, Option.some.injEq, Sl.eta, Nat.reduceLeDiff, Int.reduceLE, Int.reduceLT, Int.reduceEq, Int.reduceNe, Nat.reduceMul, Nat.reduceAdd, Nat.reduceSub, Int.toNat_natCast, beq_iff_eq, bne_iff_ne, beq_eq_false_iff_ne, bne_eq_false_iff_eq, pick_and, pick_or, Bool.and_eq_true, Bool.or_eq_true, Bool.and_eq_false_iff, Bool.or_eq_false_iff, ne_eq, not_false_eq_true, Bool.not_eq_true', Bool.not_eq_false', reduceCtorEq, Nat.le_refl, Nat.zero_mul, Nat.mul_one, Nat.zero_add, Int.reduceToNat, ones, one, add_mk, Decidable.not_not, cond_true, cond_false, true_implies, false_implies, implies_true, Bool.not_true, Bool.not_false]
  refine ⟨(refform_spec n w hn).mono ?_⟩
  rintro e w' ⟨r, rfl, ho, hx⟩
  have := ho.len1
  rw [bv_length] at this
  exact ⟨r, rfl, by rw [this], hx⟩

/-- the law's loans: the same bytes, eight marks behind -/
theorem lent_spec (s : Sl) (xs : List Nat) (w : World) (hr : Rd w 1 s (bv xs)) (hl : s.n ≤ 140737488355300) :
    Calls Try.prog 10 #[.slice s.a s.n s.c] w fun e w' =>
      ∃ g : Nat, e = .returned (.slice (some ⟨g, 0, none⟩) (s.n + 8) (s.n + 8)) ∧ w.heap.size ≤ g ∧ Blk w' g 5 (bv (xs ++ List.replicate 8 201)) ∧ Ext w w' := by
  have hxl := hr.lenb
  refine vc_10 _ _ _ ?_
  simp only [eq_self, true_and, and_true, decide_eq_true_eq, decide_eq_false_iff_not, gd_st, gd_sf, exists_eq_left', exists_eq_left, Option.some.injEq, Sl.eta, Nat.reduceLeDiff, Int.reduceLE, Int.reduceLT, Int.reduceEq, Int.reduceNe, Nat.reduceMul, Nat.reduceAdd, Nat.reduceSub, Int.toNat_natCast, beq_iff_eq, bne_iff_ne, beq_eq_false_iff_ne, bne_eq_false_iff_eq, pick_and, pick_or, Bool.and_eq_true, Bool.or_eq_true, Bool.and_eq_false_iff, Bool.or_eq_false_iff, ne_eq, not_false_eq_true, Bool.not_eq_true', Bool.not_eq_false', reduceCtorEq, Nat.le_refl, Nat.zero_mul, Nat.mul_one, Nat.zero_add, Int.reduceToNat, ones, one, add_mk, Decidable.not_not, cond_true, cond_false, true_implies, false_implies, implies_true, Bool.not_true, Bool.not_false]
  have e1 : IntKind.i64.wrap ((s.n : Int) + 8) = ((s.n + 8 : Nat) : Int) := by rw [wrap_i64 (by omega) (by omega)]; push_cast; rfl
  simp only [e1, Int.toNat_natCast]
  refine ⟨⟨by omega, by omega, by omega, by omega⟩, fun w1 h1 => ?_⟩
  have hb1 := Blk.new h1
  rw [zrow_one] at hb1
  obtain ⟨w2, hc, hb2, hu2, hs2⟩ := run_copy (t1 := 22) (t2 := 22) (ty := 3) (o := 0) (dn := s.n + 8) (dc := s.n + 8) tab_ok rfl rfl hb1 (by simp) (hr.ext h1.ext) (bv_ones xs)
  have hx2 : Ext w w2 := h1.ext.fresh hu2 (by rintro i rfl; exact Nat.le_refl _)
  refine ⟨_, w2, hc, ?_⟩
  have hb2' : Blk w2 w.heap.size 5 (bv (xs ++ List.replicate 8 0)) := by
    rw [show min s.n (s.n + 8) = s.n by omega] at hb2
    simp only [List.take_zero, List.nil_append, Nat.zero_add, List.drop_replicate] at hb2
    rw [List.take_of_length_le (by simp; omega), show s.n + 8 - s.n = 8 by omega] at hb2
    rw [bv_append]
    exact hb2
  refine ⟨fun m w' => ∃ k : Nat, m = ((s.n + k : Nat) : Int) ∧ k ≤ 8 ∧ Blk w' w.heap.size 5 (bv (xs ++ (List.replicate k 201 ++ List.replicate (8 - k) 0))) ∧ Ext w w', fun m _ => (s.n + 8 - m).toNat,
    ⟨0, rfl, by omega, by simpa using hb2', hx2⟩, ?_⟩
  rintro _ m w' ⟨k, rfl, hk, hb, hx⟩
  refine ⟨fun hlt => ⟨by omega, by omega, ?_⟩, fun hge => ?_⟩
  · simp only [Nat.zero_add]
    refine ⟨hb.canSet _ (by simp; omega), fun w3 h3 => ?_⟩
    have hb3 := h3.blk1 hb
    refine ⟨⟨k + 1, by rw [wrap_i64 (by omega) (by omega)]; push_cast; omega, by omega, ?_, ?_⟩, ?_⟩
    · rw [show (201 : Int) = ((201 : Nat) : Int) from rfl, bv_set] at hb3
      have : (xs ++ (List.replicate k 201 ++ List.replicate (8 - k) 0)).set (s.n + k) 201 = xs ++ (List.replicate (k + 1) 201 ++ List.replicate (8 - (k + 1)) 0) := by
        rw [List.set_append_right _ _ (by omega), hxl, show s.n + k - s.n = k by omega, List.set_append_right _ _ (by simp)]
        simp only [List.length_replicate, Nat.sub_self]
        rw [show 8 - k = (8 - (k + 1)) + 1 by omega, List.replicate_succ, List.set_cons_zero, List.replicate_succ']
        simp
      rw [Int.toNat_natCast, this] at hb3
      exact hb3
    · exact hx.fresh h3.upd (by rintro i rfl; exact Nat.le_refl _)
    · rw [wrap_i64 (by omega) (by omega)]; omega
  · obtain rfl : k = 8 := by omega
    exact ⟨w.heap.size, rfl, Nat.le_refl _, by simpa using hb, hx⟩

/-- do the cells stand as they were lent? -/
theorem still_spec (g n : Nat) (c : Nat) (s : Sl) (xs : List Nat) (w : World) (hb : Blk w g 5 (bv (xs ++ List.replicate 8 201))) (hr : Rd w 1 s (bv xs)) (hl : s.n ≤ 140737488355300) :
    Calls Try.prog 15 #[.slice (some ⟨g, 0, none⟩) (s.n + 8) c, .slice s.a s.n s.c] w fun e w' => e = .returned (.bool true) ∧ Ext w w' := by
  have hxl := hr.lenb
  have hlen : (bv (xs ++ List.replicate 8 201)).length = s.n + 8 := by simp [hxl]
  refine vc_15 ⟨some ⟨g, 0, none⟩, s.n + 8, c⟩ s _ _ ?_
  simp only [eq_self, true_and, and_true, decide_eq_true_eq, decide_eq_false_iff_not, gd_st, gd_sf, exists_eq_left', exists_eq_left, Option.some.injEq, Sl.eta, Nat.reduceLeDiff, Int.reduceLE, Int.reduceLT, Int.reduceEq, Int.reduceNe, Nat.reduceMul, Nat.reduceAdd, Nat.reduceSub, Int.toNat_natCast, beq_iff_eq, bne_iff_ne, beq_eq_false_iff_ne, bne_eq_false_iff_eq, pick_and, pick_or, Bool.and_eq_true, Bool.or_eq_true, Bool.and_eq_false_iff, Bool.or_eq_false_iff, ne_eq, not_false_eq_true, Bool.not_eq_true', Bool.not_eq_false', reduceCtorEq, Nat.le_refl, Nat.zero_mul, Nat.mul_one, Nat.zero_add, Int.reduceToNat, ones, one, add_mk, Decidable.not_not, cond_true, cond_false, true_implies, false_implies, implies_true, Bool.not_true, Bool.not_false]
  refine ⟨fun m w' => ∃ k : Nat, m = (k : Int) ∧ k ≤ s.n + 8 ∧ Ext w w', fun m _ => (s.n + 8 - m).toNat, ⟨0, rfl, by omega, .refl _⟩, ?_⟩
  rintro _ m w' ⟨k, rfl, hk, hx⟩
  have hb' := hb.ext hx
  refine ⟨fun hlt => ?_, fun hge => hx⟩
  have next : ∀ w3, Qt w' w3 → (∃ k' : Nat, IntKind.i64.wrap ((k : Int) + 1) = (k' : Int) ∧ k' ≤ s.n + 8 ∧ Ext w w3) ∧ ((s.n : Int) + 8 - IntKind.i64.wrap ((k : Int) + 1)).toNat < ((s.n : Int) + 8 - (k : Int)).toNat := by
    intro w3 hq
    rw [wrap_i64 (by omega) (by omega)]
    exact ⟨⟨k + 1, by push_cast; rfl, by omega, hx.trans hq.ext⟩, by omega⟩
  refine ⟨fun h1 => ⟨by omega, by omega, ?_⟩, fun h1 => ⟨fun h2 => ⟨by omega, by omega, ?_⟩, fun h2 => by omega⟩⟩
  · obtain ⟨p, x, hp, hx1, hc⟩ := hr.byte k (by omega)
    have hc' := hx.cell hc not_false
    have hg : (bv (xs ++ List.replicate 8 201))[k]? = some (.int .u8 (x : Int)) := by
      simp only [bv, List.getElem?_map, List.getElem?_append_left (show k < xs.length by omega), hx1]
      rfl
    rw [Int.toNat_natCast]
    refine ⟨x, (hb'.cell k).trans hg, by omega, by omega, p, hp, x, by simpa using hc', fun _ => ⟨fun h => by omega, fun _ => next⟩, fun h => (h rfl).elim⟩
  · have hg : (bv (xs ++ List.replicate 8 201))[k]? = some (.int .u8 (201 : Int)) := by
      simp only [bv, List.getElem?_map, List.getElem?_append_right (show xs.length ≤ k by omega), List.getElem?_replicate]
      rw [if_pos (by omega)]
      rfl
    rw [Int.toNat_natCast]
    exact ⟨201, (hb'.cell k).trans hg, fun w3 h3 => ⟨fun h => (h rfl).elim, fun _ => next w3 h3⟩⟩

/-- a row of the call's own, filled, and then added to -/
theorem full_spec (B : Nat) (l : Sl) (xs : List Nat) (m : Nat) (w : World) (ho : Own w B 5 1 l (bv xs)) (hB : B ≤ w.heap.size) (hl : l.n ≤ 140737488355000) :
    Calls Try.prog 18 #[.slice l.a l.n l.c, .int .u8 m] w fun e w' =>
      ∃ r : Sl, e = .returned (.slice r.a r.n r.c) ∧ Own w' B 5 1 r (bv (List.replicate (l.n + 64) m)) ∧ Upd (fun k => ∃ p, l.a = some p ∧ k = p.block) w w' ∧
        (∀ p, r.a = some p → l.a = some p ∨ w.heap.size ≤ p.block) := by
  refine vc_18 _ _ _ _ ?_
  simp only [eq_self, true_and, and_true, decide_eq_true_eq, decide_eq_false_iff_not, gd_st, gd_sf, exists_eq_left', exists_eq_left, Option.some.injEq, Sl.eta, Nat.reduceLeDiff, Int.reduceLE, Int.reduceLT, Int.reduceEq, Int.reduceNe, Nat.reduceMul, Nat.reduceAdd, Nat.reduceSub, Int.toNat_natCast, beq_iff_eq, bne_iff_ne, beq_eq_false_iff_ne, bne_eq_false_iff_eq, pick_and, pick_or, Bool.and_eq_true, Bool.or_eq_true, Bool.and_eq_false_iff, Bool.or_eq_false_iff, ne_eq, not_false_eq_true, Bool.not_eq_true', Bool.not_eq_false', reduceCtorEq, Nat.le_refl, Nat.zero_mul, Nat.mul_one, Nat.zero_add, Int.reduceToNat, ones, one, add_mk, Decidable.not_not, cond_true, cond_false, true_implies, false_implies, implies_true, Bool.not_true, Bool.not_false]
  have hxl : xs.length = l.n := by simpa using ho.len1
  refine ⟨fun k w' => ∃ i : Nat, k = (i : Int) ∧ i ≤ l.n ∧ Own w' B 5 1 l (bv (List.replicate i m ++ xs.drop i)) ∧ Upd (fun k => ∃ p, l.a = some p ∧ k = p.block) w w' ∧ w'.heap.size = w.heap.size,
    fun k _ => (l.n - k).toNat, ⟨0, rfl, by omega, by simpa using ho, .refl _ _, rfl⟩, ?_⟩
  rintro _ k w' ⟨i, rfl, hi, ho', hu, hsz⟩
  refine ⟨fun hlt => ⟨by omega, by omega, ?_⟩, fun hge => ?_⟩
  · obtain ⟨g, cs, ha, hg, hb, hn, hc, hcl, hts⟩ := ho'.blk (by
      intro h
      have := (ho'.none_ h).1
      rw [this] at hlt
      simp at hlt
      omega)
    refine ⟨_, ha, ?_⟩
    rw [add_mk, Nat.zero_add, Int.toNat_natCast]
    refine ⟨hb.canSet i (by omega), fun w3 h3 => ?_⟩
    have hb3 := h3.blk1 hb
    have ho3 := Own.of_blk (s := l) (z := 1) hb3 hg ha hn hc (by simpa using hcl)
    refine ⟨⟨i + 1, by rw [wrap_i64 (by omega) (by omega)]; push_cast; rfl, by omega, ?_, hu.same (h3.upd.mono fun k _ hk he => hk ⟨_, ha, he⟩), h3.size.trans hsz⟩, ?_⟩
    · simp only [Nat.mul_one] at ho3 hts
      have e1 : (cs.set i (.int .u8 (m : Int))).take l.n = (cs.take l.n).set i (.int .u8 (m : Int)) := List.take_set ..
      rw [e1, hts, bv_set] at ho3
      have e2 : (List.replicate i m ++ xs.drop i).set i m = List.replicate (i + 1) m ++ xs.drop (i + 1) := by
        rw [List.set_append_right _ _ (by simp)]
        simp only [List.length_replicate, Nat.sub_self]
        rw [List.drop_eq_getElem_cons (by omega), List.set_cons_zero, List.replicate_succ']
        simp
      rw [e2] at ho3
      exact ho3
    · rw [wrap_i64 (by omega) (by omega)]; dsimp only; omega
  · obtain rfl : i = l.n := by omega
    rw [List.drop_of_length_le (by omega), List.append_nil] at ho'
    refine ⟨fun r k w3 => ∃ j : Nat, k = (j : Int) ∧ j ≤ 64 ∧ Own w3 B 5 1 r (bv (List.replicate (l.n + j) m)) ∧ Upd (fun k => ∃ p, l.a = some p ∧ k = p.block) w w3 ∧ (∀ p, r.a = some p → l.a = some p ∨ w.heap.size ≤ p.block),
      fun _ k _ => (64 - k).toNat, ⟨0, rfl, by omega, ho', hu, fun p hp => .inl hp⟩, ?_⟩
    rintro _ r k w3 ⟨j, rfl, hj, ho3, hu3, hn3⟩
    have hrn : r.n = l.n + j := by simpa using ho3.len1.symm
    refine ⟨fun hlt w4 h4 => ?_, fun hge => ?_⟩
    · obtain ⟨q, w5, hap, hqn, ho5, hu5, hn5⟩ := app_byte (x := m) ho3 h4 rfl (by omega) (Nat.le_trans hB hu3.size)
      refine ⟨q, w5, hap, ⟨j + 1, by rw [wrap_i64 (by omega) (by omega)]; push_cast; rfl, by omega, ?_, ?_, ?_⟩, ?_⟩
      · rw [show l.n + (j + 1) = (l.n + j) + 1 by omega, List.replicate_succ']; exact ho5
      · refine hu3.fresh hu5 ?_
        rintro i ⟨p, hp, rfl⟩
        rcases hn3 p hp with h | h
        · exact .inr ⟨p, h, rfl⟩
        · exact .inl h
      · intro p hp
        rcases hn5 p hp with h | h
        · exact hn3 p h
        · exact .inr (Nat.le_trans hu3.size h)
      · rw [wrap_i64 (by omega) (by omega)]; dsimp only; omega
    · obtain rfl : j = 64 := by omega
      exact ⟨r, rfl, ho3, hu3, hn3⟩

theorem all_spec (s : Sl) (n m : Nat) (w : World) (hr : Rd w 1 s (bv (List.replicate n m))) (hl : s.n ≤ 140737488355328) :
    Calls Try.prog 19 #[.slice s.a s.n s.c, .int .u8 m] w fun e w' => e = .returned (.bool true) ∧ w' = w := by
  refine vc_19 _ _ _ _ ?_
  simp only [eq_self, true_and, and_true, decide_eq_true_eq, decide_eq_false_iff_not, gd_st, gd_sf, exists_eq_left', exists_eq_left, Option.some.injEq, Sl.eta, Nat.reduceLeDiff, Int.reduceLE, Int.reduceLT, Int.reduceEq, Int.reduceNe, Nat.reduceMul, Nat.reduceAdd, Nat.reduceSub, Int.toNat_natCast, beq_iff_eq, bne_iff_ne, beq_eq_false_iff_ne, bne_eq_false_iff_eq, pick_and, pick_or, Bool.and_eq_true, Bool.or_eq_true, Bool.and_eq_false_iff, Bool.or_eq_false_iff, ne_eq, not_false_eq_true, Bool.not_eq_true', Bool.not_eq_false', reduceCtorEq, Nat.le_refl, Nat.zero_mul, Nat.mul_one, Nat.zero_add, Int.reduceToNat, ones, one, add_mk, Decidable.not_not, cond_true, cond_false, true_implies, false_implies, implies_true, Bool.not_true, Bool.not_false]
  have hn : n = s.n := by simpa using hr.lenb
  subst hn
  refine ⟨fun k w' => ∃ i : Nat, k = (i : Int) ∧ i ≤ s.n ∧ w' = w, fun k _ => (s.n - k).toNat, ⟨0, rfl, by omega, rfl⟩, ?_⟩
  rintro _ k w' ⟨i, rfl, hi, rfl⟩
  refine ⟨fun hlt => ⟨by omega, by omega, ?_⟩, fun hge => rfl⟩
  obtain ⟨p, x, hp, hx, hc⟩ := hr.byte i (by omega)
  obtain rfl : x = m := by
    rw [List.getElem?_replicate, if_pos (by omega)] at hx
    injection hx with hx
    exact hx.symm
  refine ⟨p, hp, x, by simpa using hc, fun h => (h rfl).elim, fun _ => ⟨⟨i + 1, by rw [wrap_i64 (by omega) (by omega)]; push_cast; rfl, by omega, rfl⟩, ?_⟩⟩
  rw [wrap_i64 (by omega) (by omega)]; dsimp only; omega
end Go.Proofs.Ytbkoagepkjpalaa.V
