/-
  Package stack: what turns it.
-/
import Derived.Test.YtodbmiflnellcaaSt2
namespace Go.Proofs.Ytodbmiflnellcaa.V
open Go Go.RowKit
set_option linter.unusedVariables false
set_option linter.unusedSimpArgs false

theorem pack (a b : Nat) (ha : a < 2147483648) (hb : b < 4294967296) :
    bitV .or .u64 (shlV .u64 (a : Nat) 32) (IntKind.u64.wrap (b : Nat)) = ((a * 4294967296 + b : Nat) : Int) := by
  rw [show shlV .u64 (a : Nat) 32 = _ from shl_u64 a 32 (by decide), wrap_u64 (by omega) (by omega), show a * 2 ^ 32 % 18446744073709551616 = 2 ^ 32 * a by omega, or_u64 _ _ (by omega) (by omega),
    ← Nat.two_pow_add_eq_or_of_lt (by omega)]
  congr 1
  omega

section
variable {w w' w1 : World} {g words : Nat} {L : List Fr} {F : Nat → Prop}
theorem goto_spec (a : Int) (h : Stk w g F words L) : Calls Try.prog 15 #[.pointer (some ⟨g, 0, none⟩), .int .i64 a] w fun e w' =>
    e = .returned (.int .i64 (onTop L 20 (gotoF a)).1) ∧ Stk w' g F words (onTop L 20 (gotoF a)).2 ∧ Upd F w w' := by
  obtain ⟨gr, fs, cs, h, f1, f2, f3, f4⟩ := h
  refine vc_15 _ _ _ _ ?_
  simp only [eq_self, true_and, and_true, decide_eq_true_eq, decide_eq_false_iff_not, gd_st, gd_sf, exists_eq_left', exists_eq_left, Option.some.injEq, Sl.eta, Nat.reduceLeDiff, Int.reduceLE, Int.reduceLT, Int.reduceEq, Int.reduceNe, Nat.reduceMul, Nat.reduceAdd, Nat.reduceSub, Int.toNat_natCast, beq_iff_eq, bne_iff_ne, beq_eq_false_iff_ne, bne_eq_false_iff_eq, pick_and, pick_or, Bool.and_eq_true, Bool.or_eq_true, Bool.and_eq_false_iff, Bool.or_eq_false_iff, ne_eq, not_false_eq_true, Bool.not_eq_true', Bool.not_eq_false', reduceCtorEq, Nat.le_refl, Nat.zero_mul, Nat.mul_one, Nat.zero_add, Int.reduceToNat, ones, one, add_mk, Decidable.not_not, cond_true, cond_false, true_implies, false_implies, implies_true, Bool.not_true, Bool.not_false]
  rcases top_at L with rfl | ⟨A, f, rfl⟩
  · refine ⟨(top_out h).mono ?_⟩
    rintro e w1 ⟨rfl, hq⟩
    refine ⟨⟨none, 0, 0⟩, rfl, ?_⟩
    simp only [Option.isNone_none]
    simp only [eq_self, true_and, and_true, decide_eq_true_eq, decide_eq_false_iff_not, gd_st, gd_sf, exists_eq_left', exists_eq_left, Option.some.injEq, Sl.eta, Nat.reduceLeDiff, Int.reduceLE, Int.reduceLT, Int.reduceEq, Int.reduceNe, Nat.reduceMul, Nat.reduceAdd, Nat.reduceSub, Int.toNat_natCast, beq_iff_eq, bne_iff_ne, beq_eq_false_iff_ne, bne_eq_false_iff_eq, pick_and, pick_or, Bool.and_eq_true, Bool.or_eq_true, Bool.and_eq_false_iff, Bool.or_eq_false_iff, ne_eq, not_false_eq_true, Bool.not_eq_true', Bool.not_eq_false', reduceCtorEq, Nat.le_refl, Nat.zero_mul, Nat.mul_one, Nat.zero_add, Int.reduceToNat, ones, one, add_mk, Decidable.not_not, cond_true, cond_false, true_implies, false_implies, implies_true, Bool.not_true, Bool.not_false]
    exact ⟨rfl, .intro (h.ext hq.ext) f1 f2 f3 f4, hq.ext.mono fun _ _ _ => not_false⟩
  · refine ⟨(top_in h).mono ?_⟩
    rintro e w1 ⟨rfl, hq⟩
    have h1 := h.ext hq.ext
    have u1 : Upd F w w1 := hq.ext.mono fun _ _ _ => not_false
    have hr := h.room
    have hg := h.big
    have hz : f.size = 3 + f.ls.length + f.hi := rfl
    have hf := h1.at_
    have hfn := hf.ok.fn
    have hat := hf.ok.at_
    refine ⟨⟨some ⟨gr, used A, none⟩, words - used A, words - used A⟩, rfl, ?_⟩
    simp only [Option.isNone_some]
    simp only [eq_self, true_and, and_true, decide_eq_true_eq, decide_eq_false_iff_not, gd_st, gd_sf, exists_eq_left', exists_eq_left, Option.some.injEq, Sl.eta, Nat.reduceLeDiff, Int.reduceLE, Int.reduceLT, Int.reduceEq, Int.reduceNe, Nat.reduceMul, Nat.reduceAdd, Nat.reduceSub, Int.toNat_natCast, beq_iff_eq, bne_iff_ne, beq_eq_false_iff_ne, bne_eq_false_iff_eq, pick_and, pick_or, Bool.and_eq_true, Bool.or_eq_true, Bool.and_eq_false_iff, Bool.or_eq_false_iff, ne_eq, not_false_eq_true, Bool.not_eq_true', Bool.not_eq_false', reduceCtorEq, Nat.le_refl, Nat.zero_mul, Nat.mul_one, Nat.zero_add, Int.reduceToNat, ones, one, add_mk, Decidable.not_not, cond_true, cond_false, true_implies, false_implies, implies_true, Bool.not_true, Bool.not_false]
    rw [onTop_snoc]
    refine ⟨fun h0 => ⟨fun h2 => ?_, fun h2 => ⟨by omega, _, h1.cellAt hf.pl, by omega, h1.can (i := used A + 0) (by omega), fun w2 hs => ?_⟩⟩, fun h0 => ?_⟩
    · rw [gotoF, if_pos (by omega)]
      exact ⟨rfl, .intro h1 f1 f2 f3 f4, u1⟩
    · obtain ⟨n, rfl⟩ : ∃ n : Nat, a = n := ⟨a.toNat, by omega⟩
      rw [shr32, show (f.fn * 4294967296 + f.at_) / 4294967296 = f.fn by omega, pack _ _ hfn (by omega)] at hs
      rw [gotoF, if_neg (by omega), Int.toNat_natCast]
      exact ⟨rfl, .intro (h1.set1 hs (by omega) (by omega) rfl (hf.setPl rfl (by omega) h1.roomS)) f1 f2 f3 f4, u1.same (hs.upd.mono fun k _ hk e => hk (e ▸ f2))⟩
    · rw [gotoF, if_pos (by omega)]
      exact ⟨rfl, .intro h1 f1 f2 f3 f4, u1⟩
theorem set_spec (i : Int) (x : Nat) (h : Stk w g F words L) : Calls Try.prog 13 #[.pointer (some ⟨g, 0, none⟩), .int .i64 i, .int .u64 (x : Nat)] w fun e w' =>
    e = .returned (.int .i64 (onTop L 20 (setF i x)).1) ∧ Stk w' g F words (onTop L 20 (setF i x)).2 ∧ Upd F w w' := by
  obtain ⟨gr, fs, cs, h, f1, f2, f3, f4⟩ := h
  refine vc_13 _ _ _ _ _ ?_
  simp only [eq_self, true_and, and_true, decide_eq_true_eq, decide_eq_false_iff_not, gd_st, gd_sf, exists_eq_left', exists_eq_left, Option.some.injEq, Sl.eta, Nat.reduceLeDiff, Int.reduceLE, Int.reduceLT, Int.reduceEq, Int.reduceNe, Nat.reduceMul, Nat.reduceAdd, Nat.reduceSub, Int.toNat_natCast, beq_iff_eq, bne_iff_ne, beq_eq_false_iff_ne, bne_eq_false_iff_eq, pick_and, pick_or, Bool.and_eq_true, Bool.or_eq_true, Bool.and_eq_false_iff, Bool.or_eq_false_iff, ne_eq, not_false_eq_true, Bool.not_eq_true', Bool.not_eq_false', reduceCtorEq, Nat.le_refl, Nat.zero_mul, Nat.mul_one, Nat.zero_add, Int.reduceToNat, ones, one, add_mk, Decidable.not_not, cond_true, cond_false, true_implies, false_implies, implies_true, Bool.not_true, Bool.not_false]
  rcases top_at L with rfl | ⟨A, f, rfl⟩
  · refine ⟨(top_out h).mono ?_⟩
    rintro e w1 ⟨rfl, hq⟩
    refine ⟨⟨none, 0, 0⟩, rfl, ?_⟩
    simp only [Option.isNone_none]
    simp only [eq_self, true_and, and_true, decide_eq_true_eq, decide_eq_false_iff_not, gd_st, gd_sf, exists_eq_left', exists_eq_left, Option.some.injEq, Sl.eta, Nat.reduceLeDiff, Int.reduceLE, Int.reduceLT, Int.reduceEq, Int.reduceNe, Nat.reduceMul, Nat.reduceAdd, Nat.reduceSub, Int.toNat_natCast, beq_iff_eq, bne_iff_ne, beq_eq_false_iff_ne, bne_eq_false_iff_eq, pick_and, pick_or, Bool.and_eq_true, Bool.or_eq_true, Bool.and_eq_false_iff, Bool.or_eq_false_iff, ne_eq, not_false_eq_true, Bool.not_eq_true', Bool.not_eq_false', reduceCtorEq, Nat.le_refl, Nat.zero_mul, Nat.mul_one, Nat.zero_add, Int.reduceToNat, ones, one, add_mk, Decidable.not_not, cond_true, cond_false, true_implies, false_implies, implies_true, Bool.not_true, Bool.not_false]
    exact ⟨rfl, .intro (h.ext hq.ext) f1 f2 f3 f4, hq.ext.mono fun _ _ _ => not_false⟩
  · refine ⟨(top_in h).mono ?_⟩
    rintro e w1 ⟨rfl, hq⟩
    have h1 := h.ext hq.ext
    have u1 : Upd F w w1 := hq.ext.mono fun _ _ _ => not_false
    have hr := h.room
    have hg := h.big
    have hz : f.size = 3 + f.ls.length + f.hi := rfl
    have hf := h1.at_
    refine ⟨⟨some ⟨gr, used A, none⟩, words - used A, words - used A⟩, rfl, ?_⟩
    simp only [Option.isNone_some]
    simp only [eq_self, true_and, and_true, decide_eq_true_eq, decide_eq_false_iff_not, gd_st, gd_sf, exists_eq_left', exists_eq_left, Option.some.injEq, Sl.eta, Nat.reduceLeDiff, Int.reduceLE, Int.reduceLT, Int.reduceEq, Int.reduceNe, Nat.reduceMul, Nat.reduceAdd, Nat.reduceSub, Int.toNat_natCast, beq_iff_eq, bne_iff_ne, beq_eq_false_iff_ne, bne_eq_false_iff_eq, pick_and, pick_or, Bool.and_eq_true, Bool.or_eq_true, Bool.and_eq_false_iff, Bool.or_eq_false_iff, ne_eq, not_false_eq_true, Bool.not_eq_true', Bool.not_eq_false', reduceCtorEq, Nat.le_refl, Nat.zero_mul, Nat.mul_one, Nat.zero_add, Int.reduceToNat, ones, one, add_mk, Decidable.not_not, cond_true, cond_false, true_implies, false_implies, implies_true, Bool.not_true, Bool.not_false]
    rw [onTop_snoc]
    refine ⟨fun h0 => ⟨(locals_spec h1 _ _ hf (by omega)).mono ?_⟩, fun h0 => ?_⟩
    · rintro e w2 ⟨rfl, hq2⟩
      have h2 := h1.ext hq2.ext
      have u2 : Upd F w w2 := u1.ext hq2.ext
      refine ⟨_, rfl, fun hi => ?_, fun hi => ?_⟩
      · rw [setF, if_neg (by omega)]
        exact ⟨rfl, .intro h2 f1 f2 f3 f4, u2⟩
      · rw [wrap_i64 (by omega) (by omega), setF, if_pos (by omega)]
        rw [show used A + (3 + i).toNat = used A + 3 + i.toNat by omega]
        refine ⟨by omega, by omega, h2.can (by omega), fun w3 hs => ⟨rfl, ?_, u2.same (hs.upd.mono fun k _ hk e => hk (e ▸ f2))⟩⟩
        exact .intro (h2.set1 hs (by omega) (by omega) (by simp [Fr.size]) (hf.setLocal (by omega) h2.roomS)) f1 f2 f3 f4
    · rw [setF, if_neg (by omega)]
      exact ⟨rfl, .intro h1 f1 f2 f3 f4, u1⟩
theorem push_spec (x : Nat) (h : Stk w g F words L) : Calls Try.prog 12 #[.pointer (some ⟨g, 0, none⟩), .int .u64 (x : Nat)] w fun e w' =>
    e = .returned (.int .i64 (onTop L 20 (pushF x)).1) ∧ Stk w' g F words (onTop L 20 (pushF x)).2 ∧ Upd F w w' := by
  obtain ⟨gr, fs, cs, h, f1, f2, f3, f4⟩ := h
  refine vc_12 _ _ _ _ ?_
  simp only [eq_self, true_and, and_true, decide_eq_true_eq, decide_eq_false_iff_not, gd_st, gd_sf, exists_eq_left', exists_eq_left, Option.some.injEq, Sl.eta, Nat.reduceLeDiff, Int.reduceLE, Int.reduceLT, Int.reduceEq, Int.reduceNe, Nat.reduceMul, Nat.reduceAdd, Nat.reduceSub, Int.toNat_natCast, beq_iff_eq, bne_iff_ne, beq_eq_false_iff_ne, bne_eq_false_iff_eq, pick_and, pick_or, Bool.and_eq_true, Bool.or_eq_true, Bool.and_eq_false_iff, Bool.or_eq_false_iff, ne_eq, not_false_eq_true, Bool.not_eq_true', Bool.not_eq_false', reduceCtorEq, Nat.le_refl, Nat.zero_mul, Nat.mul_one, Nat.zero_add, Int.reduceToNat, ones, one, add_mk, Decidable.not_not, cond_true, cond_false, true_implies, false_implies, implies_true, Bool.not_true, Bool.not_false]
  rcases top_at L with rfl | ⟨A, f, rfl⟩
  · refine ⟨(top_out h).mono ?_⟩
    rintro e w1 ⟨rfl, hq⟩
    refine ⟨⟨none, 0, 0⟩, rfl, ?_⟩
    simp only [Option.isNone_none]
    simp only [eq_self, true_and, and_true, decide_eq_true_eq, decide_eq_false_iff_not, gd_st, gd_sf, exists_eq_left', exists_eq_left, Option.some.injEq, Sl.eta, Nat.reduceLeDiff, Int.reduceLE, Int.reduceLT, Int.reduceEq, Int.reduceNe, Nat.reduceMul, Nat.reduceAdd, Nat.reduceSub, Int.toNat_natCast, beq_iff_eq, bne_iff_ne, beq_eq_false_iff_ne, bne_eq_false_iff_eq, pick_and, pick_or, Bool.and_eq_true, Bool.or_eq_true, Bool.and_eq_false_iff, Bool.or_eq_false_iff, ne_eq, not_false_eq_true, Bool.not_eq_true', Bool.not_eq_false', reduceCtorEq, Nat.le_refl, Nat.zero_mul, Nat.mul_one, Nat.zero_add, Int.reduceToNat, ones, one, add_mk, Decidable.not_not, cond_true, cond_false, true_implies, false_implies, implies_true, Bool.not_true, Bool.not_false]
    exact ⟨rfl, .intro (h.ext hq.ext) f1 f2 f3 f4, hq.ext.mono fun _ _ _ => not_false⟩
  · refine ⟨(top_in h).mono ?_⟩
    rintro e w1 ⟨rfl, hq⟩
    have h1 := h.ext hq.ext
    have u1 : Upd F w w1 := hq.ext.mono fun _ _ _ => not_false
    have hr := h.room
    have hg := h.big
    have hz : f.size = 3 + f.ls.length + f.hi := rfl
    have hf := h1.at_
    have ho := hf.ok.ops
    have hls := hf.ok.ls
    have hhi := hf.ok.hi
    refine ⟨⟨some ⟨gr, used A, none⟩, words - used A, words - used A⟩, rfl, ?_⟩
    simp only [Option.isNone_some]
    simp only [eq_self, true_and, and_true, decide_eq_true_eq, decide_eq_false_iff_not, gd_st, gd_sf, exists_eq_left', exists_eq_left, Option.some.injEq, Sl.eta, Nat.reduceLeDiff, Int.reduceLE, Int.reduceLT, Int.reduceEq, Int.reduceNe, Nat.reduceMul, Nat.reduceAdd, Nat.reduceSub, Int.toNat_natCast, beq_iff_eq, bne_iff_ne, beq_eq_false_iff_ne, bne_eq_false_iff_eq, pick_and, pick_or, Bool.and_eq_true, Bool.or_eq_true, Bool.and_eq_false_iff, Bool.or_eq_false_iff, ne_eq, not_false_eq_true, Bool.not_eq_true', Bool.not_eq_false', reduceCtorEq, Nat.le_refl, Nat.zero_mul, Nat.mul_one, Nat.zero_add, Int.reduceToNat, ones, one, add_mk, Decidable.not_not, cond_true, cond_false, true_implies, false_implies, implies_true, Bool.not_true, Bool.not_false]
    rw [onTop_snoc]
    refine ⟨by omega, _, h1.cellAt hf.ht, by omega, _, h1.cellAt hf.sh, fun w2 hq2 => ?_⟩
    have h2 := h1.ext hq2.ext
    have u2 : Upd F w w2 := u1.ext hq2.ext
    rw [wrap_u32', wrap_u64 (n := _ % _) (by omega) (by omega)]
    refine ⟨fun hx => ?_, fun hx w3 hq3 => ?_⟩
    · rw [pushF, if_pos (by omega)]
      exact ⟨rfl, .intro h2 f1 f2 f3 f4, u2⟩
    · have h3 := h2.ext hq3.ext
      have u3 : Upd F w w3 := u2.ext hq3.ext
      refine ⟨fun _ => False, by omega, _, fun w4 hu => (h3.ext hu).cellAt hf.ht, ⟨(locals_spec h3 _ _ hf (by omega)).mono ?_⟩⟩
      rintro e w4 ⟨rfl, hq4⟩
      refine ⟨_, rfl, hq4.ext, ?_⟩
      have h4 := h3.ext hq4.ext
      have u4 : Upd F w w4 := u3.ext hq4.ext
      rw [wrap_i64 (n := (f.ops.length : Nat)) (by omega) (by omega), wrap_i64 (n := 3 + _) (by omega) (by omega), wrap_i64 (n := _ + ((f.ops.length : Nat) : Int)) (by omega) (by omega)]
      rw [show used A + (3 + (f.ls.length : Int) + (f.ops.length : Int)).toNat = used A + 3 + f.ls.length + f.ops.length by omega]
      rw [pushF, if_neg (by omega)]
      refine ⟨by omega, by omega, h4.can (by omega), fun w5 hs => ?_⟩
      have hcong : FrAt (cs.set (used A + 3 + f.ls.length + f.ops.length) x) (used A) f := by
        refine ⟨hf.ok, ?_, ?_, ?_, fun j v hv => ?_, fun j v hv => ?_⟩
        · rw [List.getElem?_set_ne (by omega)]; exact hf.pl
        · rw [List.getElem?_set_ne (by omega)]; exact hf.sh
        · rw [List.getElem?_set_ne (by omega)]; exact hf.ht
        · have hj : j < f.ls.length := (List.getElem?_eq_some_iff.1 hv).1
          rw [List.getElem?_set_ne (by omega)]; exact hf.ls j v hv
        · have hj : j < f.ops.length := (List.getElem?_eq_some_iff.1 hv).1
          rw [List.getElem?_set_ne (by omega)]; exact hf.ops j v hv
      have h5 := h4.set1 (C := []) hs (by omega) (by omega) rfl hcong
      have u5 : Upd F w w5 := u4.same (hs.upd.mono fun k _ hk e => hk (e ▸ f2))
      refine ⟨by omega, _, h5.cellAt hcong.ht, by omega, h5.can (by omega), fun w6 hs6 => ?_⟩
      rw [wrap_u64 (by omega) (by omega), show ((f.ops.length : Int) + 1) = ((f.ops.length + 1 : Nat) : Int) by push_cast; rfl] at hs6
      have hcl := h4.roomS
      refine ⟨rfl, .intro (h5.set1 hs6 (by omega) (by omega) rfl (hcong.more (List.getElem?_set_self (by omega)) (by omega) h5.roomS)) f1 f2 f3 f4, u5.same (hs6.upd.mono fun k _ hk e => hk (e ▸ f2))⟩
theorem pop_spec (h : Stk w g F words L) : Calls Try.prog 14 #[.pointer (some ⟨g, 0, none⟩)] w fun e w' =>
    e = .returned (.tuple #[.int .u64 ((onTop L (0, 20) popF).1.1 : Nat), .int .i64 (onTop L (0, 20) popF).1.2]) ∧ Stk w' g F words (onTop L (0, 20) popF).2 ∧ Upd F w w' := by
  obtain ⟨gr, fs, cs, h, f1, f2, f3, f4⟩ := h
  refine vc_14 _ _ _ ?_
  simp only [eq_self, true_and, and_true, decide_eq_true_eq, decide_eq_false_iff_not, gd_st, gd_sf, exists_eq_left', exists_eq_left, Option.some.injEq, Sl.eta, Nat.reduceLeDiff, Int.reduceLE, Int.reduceLT, Int.reduceEq, Int.reduceNe, Nat.reduceMul, Nat.reduceAdd, Nat.reduceSub, Int.toNat_natCast, beq_iff_eq, bne_iff_ne, beq_eq_false_iff_ne, bne_eq_false_iff_eq, pick_and, pick_or, Bool.and_eq_true, Bool.or_eq_true, Bool.and_eq_false_iff, Bool.or_eq_false_iff, ne_eq, not_false_eq_true, Bool.not_eq_true', Bool.not_eq_false', reduceCtorEq, Nat.le_refl, Nat.zero_mul, Nat.mul_one, Nat.zero_add, Int.reduceToNat, ones, one, add_mk, Decidable.not_not, cond_true, cond_false, true_implies, false_implies, implies_true, Bool.not_true, Bool.not_false]
  rcases top_at L with rfl | ⟨A, f, rfl⟩
  · refine ⟨(top_out h).mono ?_⟩
    rintro e w1 ⟨rfl, hq⟩
    refine ⟨⟨none, 0, 0⟩, rfl, ?_⟩
    simp only [Option.isNone_none]
    simp only [eq_self, true_and, and_true, decide_eq_true_eq, decide_eq_false_iff_not, gd_st, gd_sf, exists_eq_left', exists_eq_left, Option.some.injEq, Sl.eta, Nat.reduceLeDiff, Int.reduceLE, Int.reduceLT, Int.reduceEq, Int.reduceNe, Nat.reduceMul, Nat.reduceAdd, Nat.reduceSub, Int.toNat_natCast, beq_iff_eq, bne_iff_ne, beq_eq_false_iff_ne, bne_eq_false_iff_eq, pick_and, pick_or, Bool.and_eq_true, Bool.or_eq_true, Bool.and_eq_false_iff, Bool.or_eq_false_iff, ne_eq, not_false_eq_true, Bool.not_eq_true', Bool.not_eq_false', reduceCtorEq, Nat.le_refl, Nat.zero_mul, Nat.mul_one, Nat.zero_add, Int.reduceToNat, ones, one, add_mk, Decidable.not_not, cond_true, cond_false, true_implies, false_implies, implies_true, Bool.not_true, Bool.not_false]
    exact ⟨rfl, .intro (h.ext hq.ext) f1 f2 f3 f4, hq.ext.mono fun _ _ _ => not_false⟩
  · refine ⟨(top_in h).mono ?_⟩
    rintro e w1 ⟨rfl, hq⟩
    have h1 := h.ext hq.ext
    have u1 : Upd F w w1 := hq.ext.mono fun _ _ _ => not_false
    have hr := h.room
    have hg := h.big
    have hz : f.size = 3 + f.ls.length + f.hi := rfl
    have hf := h1.at_
    have ho := hf.ok.ops
    have hls := hf.ok.ls
    have hhi := hf.ok.hi
    refine ⟨⟨some ⟨gr, used A, none⟩, words - used A, words - used A⟩, rfl, ?_⟩
    simp only [Option.isNone_some]
    simp only [eq_self, true_and, and_true, decide_eq_true_eq, decide_eq_false_iff_not, gd_st, gd_sf, exists_eq_left', exists_eq_left, Option.some.injEq, Sl.eta, Nat.reduceLeDiff, Int.reduceLE, Int.reduceLT, Int.reduceEq, Int.reduceNe, Nat.reduceMul, Nat.reduceAdd, Nat.reduceSub, Int.toNat_natCast, beq_iff_eq, bne_iff_ne, beq_eq_false_iff_ne, bne_eq_false_iff_eq, pick_and, pick_or, Bool.and_eq_true, Bool.or_eq_true, Bool.and_eq_false_iff, Bool.or_eq_false_iff, ne_eq, not_false_eq_true, Bool.not_eq_true', Bool.not_eq_false', reduceCtorEq, Nat.le_refl, Nat.zero_mul, Nat.mul_one, Nat.zero_add, Int.reduceToNat, ones, one, add_mk, Decidable.not_not, cond_true, cond_false, true_implies, false_implies, implies_true, Bool.not_true, Bool.not_false]
    rw [onTop_snoc]
    refine ⟨by omega, _, h1.cellAt hf.ht, fun hx => ?_, fun hx => ⟨by omega, _, h1.cellAt hf.ht, by omega, h1.can (by omega), fun w2 hs w3 hq3 => ?_⟩⟩
    · rw [popF, if_pos (by omega)]
      exact ⟨rfl, .intro h1 f1 f2 f3 f4, u1⟩
    · rw [wrap_u64 (by omega) (by omega), show ((f.ops.length : Int) - 1) = ((f.ops.length - 1 : Nat) : Int) by omega] at hs
      have hfl := hf.less (by omega) h1.roomS
      have h2 := h1.set1 (f' := { f with ops := f.ops.dropLast }) hs (by omega) (by omega) rfl hfl
      have h3 := h2.ext hq3.ext
      have u3 : Upd F w w3 := (u1.same (hs.upd.mono fun k _ hk e => hk (e ▸ f2))).ext hq3.ext
      refine ⟨fun _ => False, by omega, _, fun w4 hu => (h3.ext hu).cellAt hfl.ht, ⟨(locals_spec h3 _ _ hfl (by omega)).mono ?_⟩⟩
      rintro e w4 ⟨rfl, hq4⟩
      refine ⟨_, rfl, hq4.ext, ?_⟩
      have h4 := h3.ext hq4.ext
      have hlt : f.ops.length - 1 < f.ops.length := by omega
      simp only [List.length_dropLast]
      rw [wrap_i64 (n := (_ : Nat)) (by omega) (by omega), wrap_i64 (n := 3 + _) (by omega) (by omega), wrap_i64 (n := _ + ((f.ops.length - 1 : Nat) : Int)) (by omega) (by omega)]
      rw [show used A + (3 + (f.ls.length : Int) + ((f.ops.length - 1 : Nat) : Int)).toNat = used A + 3 + f.ls.length + (f.ops.length - 1) by omega]
      rw [popF, if_neg (by omega)]
      refine ⟨by omega, by omega, _, fun w5 hu => (h4.ext hu).cellAt ?_, rfl, .intro h4 f1 f2 f3 f4, u3.ext hq4.ext⟩
      rw [List.getElem?_set_ne (by omega)]
      exact hf.ops _ _ (by simp [List.getD_eq_getElem?_getD, List.getElem?_eq_getElem hlt])
theorem StkAt.snoc_len (L : List Fr) : L.length ≤ used L := by
  induction L with
  | nil => simp
  | cons a r ih => have := a.size_ge; simp only [List.length_cons, used]; omega
theorem leave_spec (h : Stk w g F words L) : Calls Try.prog 18 #[.pointer (some ⟨g, 0, none⟩)] w fun e w' =>
    e = .returned (.int .i64 (leaveL L).1) ∧ Stk w' g F words (leaveL L).2 ∧ Upd F w w' := by
  obtain ⟨gr, fs, cs, h, f1, f2, f3, f4⟩ := h
  refine vc_18 _ _ _ ?_
  have hb := h.hd
  have hn := h.lenS
  have hf := h.fit
  have hg := h.big
  have hl := StkAt.snoc_len L
  simp only [eq_self, true_and, and_true, decide_eq_true_eq, decide_eq_false_iff_not, gd_st, gd_sf, exists_eq_left', exists_eq_left, Option.some.injEq, Sl.eta, Nat.reduceLeDiff, Int.reduceLE, Int.reduceLT, Int.reduceEq, Int.reduceNe, Nat.reduceMul, Nat.reduceAdd, Nat.reduceSub, Int.toNat_natCast, beq_iff_eq, bne_iff_ne, beq_eq_false_iff_ne, bne_eq_false_iff_eq, pick_and, pick_or, Bool.and_eq_true, Bool.or_eq_true, Bool.and_eq_false_iff, Bool.or_eq_false_iff, ne_eq, not_false_eq_true, Bool.not_eq_true', Bool.not_eq_false', reduceCtorEq, Nat.le_refl, Nat.zero_mul, Nat.mul_one, Nat.zero_add, Int.reduceToNat, ones, one, add_mk, Decidable.not_not, cond_true, cond_false, true_implies, false_implies, implies_true, Bool.not_true, Bool.not_false]
  simp only [hb.cell, List.getElem?_cons_zero, List.getElem?_cons_succ, ex_sl, Value.int.injEq, Value.bool.injEq, Value.pointer.injEq, Value.string.injEq, eq_self, true_and, and_true, decide_eq_true_eq, decide_eq_false_iff_not, gd_st, gd_sf, exists_eq_left', exists_eq_left, Option.some.injEq, Sl.eta, Nat.reduceLeDiff, Int.reduceLE, Int.reduceLT, Int.reduceEq, Int.reduceNe, Nat.reduceMul, Nat.reduceAdd, Nat.reduceSub, Int.toNat_natCast, beq_iff_eq, bne_iff_ne, beq_eq_false_iff_ne, bne_eq_false_iff_eq, pick_and, pick_or, Bool.and_eq_true, Bool.or_eq_true, Bool.and_eq_false_iff, Bool.or_eq_false_iff, ne_eq, not_false_eq_true, Bool.not_eq_true', Bool.not_eq_false', reduceCtorEq, Nat.le_refl, Nat.zero_mul, Nat.mul_one, Nat.zero_add, Int.reduceToNat, ones, one, add_mk, Decidable.not_not, cond_true, cond_false, true_implies, false_implies, implies_true, Bool.not_true, Bool.not_false]
  refine ⟨fun h0 => ?_, fun h0 => ?_⟩
  · rw [leaveL, if_pos (by omega)]
    exact ⟨rfl, .intro h f1 f2 f3 f4, .refl _ _⟩
  · rcases top_at L with rfl | ⟨A, f, rfl⟩
    · exact (h0 (by rw [hn]; rfl)).elim
    rw [leaveL, if_neg (by simp), List.dropLast_concat]
    rw [List.length_append, List.length_singleton] at hn hl
    rw [show IntKind.i64.wrap ((fs.n : Int) - 1) = ((A.length : Nat) : Int) by rw [wrap_i64 (by omega) (by omega)]; omega]
    obtain ⟨p, x, hp, hx, hc⟩ := h.fst.rd.intl A.length (by omega)
    rw [starts_append, List.getElem?_append_right (by rw [starts_len]; omega), starts_len, Nat.sub_self] at hx
    simp only [starts, List.getElem?_cons_zero, Option.some.injEq, Nat.zero_add] at hx
    subst hx
    rw [Nat.mul_one] at hc
    have hcap := h.fst.cap
    refine ⟨by omega, by omega, p, hp, _, hc, hb.canSet 1 (by simp), fun w1 h1 => ?_⟩
    have hb1 := h1.blk1 hb
    simp only [List.set_cons_succ, List.set_cons_zero] at hb1
    simp only [hb1.cell, List.getElem?_cons_zero, List.getElem?_cons_succ, ex_sl, Value.int.injEq, Value.bool.injEq, Value.pointer.injEq, Value.string.injEq, eq_self, true_and, and_true, decide_eq_true_eq, decide_eq_false_iff_not, gd_st, gd_sf, exists_eq_left', exists_eq_left, Option.some.injEq, Sl.eta, Nat.reduceLeDiff, Int.reduceLE, Int.reduceLT, Int.reduceEq, Int.reduceNe, Nat.reduceMul, Nat.reduceAdd, Nat.reduceSub, Int.toNat_natCast, beq_iff_eq, bne_iff_ne, beq_eq_false_iff_ne, bne_eq_false_iff_eq, pick_and, pick_or, Bool.and_eq_true, Bool.or_eq_true, Bool.and_eq_false_iff, Bool.or_eq_false_iff, ne_eq, not_false_eq_true, Bool.not_eq_true', Bool.not_eq_false', reduceCtorEq, Nat.le_refl, Nat.zero_mul, Nat.mul_one, Nat.zero_add, Int.reduceToNat, ones, one, add_mk, Decidable.not_not, cond_true, cond_false, true_implies, false_implies, implies_true, Bool.not_true, Bool.not_false]
    refine ⟨by omega, by omega, hb1.canSet 2 (by simp), fun w2 h2 => ⟨?_, ?_⟩⟩
    · have hb2 := h2.blk1 hb1
      have u : Upd (· = g) w w2 := h1.upd.same h2.upd
      obtain ⟨g', cs', hs', _, hbl, hle, hmx, hlen, htk⟩ := h.fst.blk (by rw [hp]; simp)
      have hs2 : fs.a = some ⟨g', 0, none⟩ := hs'
      refine .intro (fs := ⟨fs.a, A.length, fs.c⟩) (gr := gr) (cs := cs) ⟨?_, h.row.upd u h.ne, h.len, ?_, ?_, ?_, h.big, h.ne, h.off⟩ f1 f2 f3 f4
      · have : (if fs.c = 0 then fs.a else Option.map (fun x => x.add 0) fs.a) = fs.a := by
          split
          · rfl
          · rw [hs2]; rfl
        rw [this] at hb2
        simp only [List.set_cons_succ, List.set_cons_zero] at hb2
        exact hb2
      · have ho := Own.of_blk (s := ⟨fs.a, A.length, fs.c⟩) (z := 1) (B := 0) (hbl.upd u (by
          intro he
          exact (h.off _ hs2).1 he)) (Nat.zero_le _) hs2 (by show A.length ≤ fs.c; omega) hmx hlen
        have e : cs'.take (A.length * 1) = iv (starts 0 A) := by
          have := congrArg (List.take A.length) htk
          rw [List.take_take, Nat.min_eq_left (by omega)] at this
          rw [Nat.mul_one, this, starts_append, iv_append, List.take_append_of_le_length (by rw [iv_length, starts_len]; exact Nat.le_refl _), List.take_of_length_le (by rw [iv_length, starts_len]; exact Nat.le_refl _)]
        rw [← e]
        exact ho
      · exact ((lay_append cs A [f] 0).1 h.lay).1
      · have := h.fit
        rw [used_append] at this
        omega
    · have u : Upd (· = g) w w2 := h1.upd.same h2.upd
      exact u.mono fun k _ hk e => hk (e ▸ f1)
end
end Go.Proofs.Ytodbmiflnellcaa.V
