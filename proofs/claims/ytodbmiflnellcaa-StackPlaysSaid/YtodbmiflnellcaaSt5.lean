/-
  Package stack: Enter, Frame.
-/
import Derived.Test.YtodbmiflnellcaaSt4
namespace Go.Proofs.Ytodbmiflnellcaa.V
open Go Go.RowKit
set_option linter.unusedVariables false
set_option linter.unusedSimpArgs false

def clr (cs : List Nat) (o n : Nat) : List Nat := cs.take o ++ (List.replicate n 0 ++ cs.drop (o + n))
theorem clr_len {cs : List Nat} {o n : Nat} (h : o + n ≤ cs.length) : (clr cs o n).length = cs.length := by
  simp [clr]; omega
theorem clr_in {cs : List Nat} {o n j : Nat} (h : o + n ≤ cs.length) (h1 : o ≤ j) (h2 : j < o + n) : (clr cs o n)[j]? = some 0 := by
  unfold clr
  rw [List.getElem?_append_right (by simp; omega), List.length_take, Nat.min_eq_left (by omega), List.getElem?_append_left (by simp; omega), List.getElem?_replicate, if_pos (by omega)]
theorem clr_out {cs : List Nat} {o n j : Nat} (h : o + n ≤ cs.length) (h1 : j < o ∨ o + n ≤ j) : (clr cs o n)[j]? = cs[j]? := by
  unfold clr
  rcases h1 with h1 | h1
  · rw [List.getElem?_append_left (by simp; omega), List.getElem?_take, if_pos h1]
  · rw [List.getElem?_append_right (by simp; omega), List.length_take, Nat.min_eq_left (by omega), List.getElem?_append_right (by simp; omega), List.length_replicate, List.getElem?_drop]
    congr 1
    omega
theorem clr_uv {cs : List Nat} {o n : Nat} (h : o + n ≤ cs.length) : setsL (uv cs) o (List.replicate n (.int .u64 0)) = uv (clr cs o n) := by
  apply List.ext_getElem?
  intro j
  by_cases hj : o ≤ j ∧ j < o + n
  · obtain ⟨i, rfl⟩ : ∃ i, j = o + i := ⟨j - o, by omega⟩
    rw [setsL_in _ _ _ _ (by simpa using h) (by simp; omega), uv, List.getElem?_map, clr_in h (by omega) (by omega), List.getElem?_replicate, if_pos (by omega)]
    rfl
  · rw [setsL_out _ _ _ _ (by simp; omega), uv, uv, List.getElem?_map, List.getElem?_map, clr_out h (by omega)]
section
variable {w w' w1 : World} {g gr words : Nat} {fs : Sl} {cs : List Nat} {L A C : List Fr} {f : Fr} {F : Nat → Prop}
theorem enter_spec (fn lo hi : Int) (h : Stk w g F words L) : Calls Try.prog 11 #[.pointer (some ⟨g, 0, none⟩), .int .i64 fn, .int .i64 lo, .int .i64 hi] w fun e w' =>
    e = .returned (.int .i64 (enterL words L fn lo hi).1) ∧ Upd F w w' ∧ ∃ F', Stk w' g F' words (enterL words L fn lo hi).2 ∧ ∀ k, F' k → F k ∨ w.heap.size ≤ k := by
  have h0 := h
  obtain ⟨gr, fs, cs, h, f1, f2, f3, f4⟩ := h
  refine vc_11 _ _ _ _ _ _ ?_
  have same : ∀ w', Ext w w' → Upd F w w' ∧ ∃ F', Stk w' g F' words L ∧ ∀ k, F' k → F k ∨ w.heap.size ≤ k := fun w' hx => ⟨hx.mono fun _ _ _ => not_false, F, h0.ext hx, fun _ => .inl⟩
  have bad : (fn < 0 ∨ 2147483647 < fn ∨ lo < 0 ∨ 32 < lo ∨ hi < 0 ∨ 24 < hi) → ∀ w', Ext w w' → Ending.returned (.int .i64 1) = .returned (.int .i64 (enterL words L fn lo hi).1) ∧ Upd F w w' ∧ ∃ F', Stk w' g F' words (enterL words L fn lo hi).2 ∧ ∀ k, F' k → F k ∨ w.heap.size ≤ k := fun hh w' hx => by
    rw [enterL, if_pos hh]; exact ⟨rfl, same w' hx⟩
  have hb := h.hd
  have hfit := h.fit
  have hbig := h.big
  simp only [eq_self, true_and, and_true, decide_eq_true_eq, decide_eq_false_iff_not, gd_st, gd_sf, exists_eq_left', exists_eq_left, Option.some.injEq, Sl.eta, Nat.reduceLeDiff, Int.reduceLE, Int.reduceLT, Int.reduceEq, Int.reduceNe, Nat.reduceMul, Nat.reduceAdd, Nat.reduceSub, Int.toNat_natCast, beq_iff_eq, bne_iff_ne, beq_eq_false_iff_ne, bne_eq_false_iff_eq, pick_and, pick_or, Bool.and_eq_true, Bool.or_eq_true, Bool.and_eq_false_iff, Bool.or_eq_false_iff, ne_eq, not_false_eq_true, Bool.not_eq_true', Bool.not_eq_false', reduceCtorEq, Nat.le_refl, Nat.zero_mul, Nat.mul_one, Nat.zero_add, Int.reduceToNat, ones, one, add_mk, Decidable.not_not, cond_true, cond_false, true_implies, false_implies, implies_true, Bool.not_true, Bool.not_false]
  simp only [hb.cell, List.getElem?_cons_zero, List.getElem?_cons_succ, ex_sl, Value.int.injEq, Value.bool.injEq, Value.pointer.injEq, Value.string.injEq, eq_self, true_and, and_true, decide_eq_true_eq, decide_eq_false_iff_not, gd_st, gd_sf, exists_eq_left', exists_eq_left, Option.some.injEq, Sl.eta, Nat.reduceLeDiff, Int.reduceLE, Int.reduceLT, Int.reduceEq, Int.reduceNe, Nat.reduceMul, Nat.reduceAdd, Nat.reduceSub, Int.toNat_natCast, beq_iff_eq, bne_iff_ne, beq_eq_false_iff_ne, bne_eq_false_iff_eq, pick_and, pick_or, Bool.and_eq_true, Bool.or_eq_true, Bool.and_eq_false_iff, Bool.or_eq_false_iff, ne_eq, not_false_eq_true, Bool.not_eq_true', Bool.not_eq_false', reduceCtorEq, Nat.le_refl, Nat.zero_mul, Nat.mul_one, Nat.zero_add, Int.reduceToNat, ones, one, add_mk, Decidable.not_not, cond_true, cond_false, true_implies, false_implies, implies_true, Bool.not_true, Bool.not_false]
  refine ⟨fun c1 => ⟨fun c2 => ⟨fun c3 => ⟨fun c4 => ⟨fun c5 => ⟨fun c6 => bad (by omega) _ (Ext.refl _), fun c6 w1 q1 => ?_⟩, fun c5 => bad (by omega) _ (Ext.refl _)⟩, fun c4 => bad (by omega) _ (Ext.refl _)⟩, fun c3 => bad (by omega) _ (Ext.refl _)⟩, fun c2 => bad (by omega) _ (Ext.refl _)⟩, fun c1 => bad (by omega) _ (Ext.refl _)⟩
  obtain ⟨a, rfl⟩ : ∃ a : Nat, fn = a := ⟨fn.toNat, by omega⟩
  obtain ⟨m, rfl⟩ : ∃ m : Nat, lo = m := ⟨lo.toNat, by omega⟩
  obtain ⟨t, rfl⟩ : ∃ t : Nat, hi = t := ⟨hi.toNat, by omega⟩
  have h1 := h.ext q1.ext
  have hb1 := h1.hd
  rw [wrap_i64 (n := (words : Int) - (used L : Nat)) (by omega) (by omega), wrap_i64 (n := 3 + (m : Nat)) (by omega) (by omega), wrap_i64 (n := 3 + (m : Int) + (t : Nat)) (by omega) (by omega)]
  have hlen := h.len
  refine ⟨fun hs => ?_, fun hs => ?_⟩
  · rw [enterL, if_neg (by omega), if_pos (by omega)]
    exact ⟨rfl, same _ q1.ext⟩
  rw [enterL, if_neg (by omega), if_neg (by omega)]
  simp only [hb1.cell, List.getElem?_cons_zero, List.getElem?_cons_succ, ex_sl, Value.int.injEq, Value.bool.injEq, Value.pointer.injEq, Value.string.injEq, eq_self, true_and, and_true, decide_eq_true_eq, decide_eq_false_iff_not, gd_st, gd_sf, exists_eq_left', exists_eq_left, Option.some.injEq, Sl.eta, Nat.reduceLeDiff, Int.reduceLE, Int.reduceLT, Int.reduceEq, Int.reduceNe, Nat.reduceMul, Nat.reduceAdd, Nat.reduceSub, Int.toNat_natCast, beq_iff_eq, bne_iff_ne, beq_eq_false_iff_ne, bne_eq_false_iff_eq, pick_and, pick_or, Bool.and_eq_true, Bool.or_eq_true, Bool.and_eq_false_iff, Bool.or_eq_false_iff, ne_eq, not_false_eq_true, Bool.not_eq_true', Bool.not_eq_false', reduceCtorEq, Nat.le_refl, Nat.zero_mul, Nat.mul_one, Nat.zero_add, Int.reduceToNat, ones, one, add_mk, Decidable.not_not, cond_true, cond_false, true_implies, false_implies, implies_true, Bool.not_true, Bool.not_false]
  rw [wrap_i64 (n := (used L : Int) + _) (by omega) (by omega)]
  refine ⟨by omega, by omega, by omega, fun w2 q2 => ?_⟩
  have h2 := h1.ext q2.ext
  rw [if_neg (by omega)]
  simp only [Option.map_some, add_mk, Nat.zero_add, Int.toNat_natCast]
  rw [show ((used L : Int) + (3 + m + t)).toNat - used L = 3 + m + t by omega]
  obtain ⟨w3, hr3, hb3, hu3, hs3⟩ := run_clear tab_ok (t := 47) (ty := 0) (z := .int .u64 0) (n := 3 + m + t) (o := used L) (c := words - used L) rfl rfl trivial h2.row (by rw [uv_length, hlen]; omega) (by omega)
  refine ⟨_, w3, hr3, ?_⟩
  have hfit' : used L + (3 + m + t) ≤ cs.length := by omega
  rw [clr_uv hfit'] at hb3
  simp only [eq_self, true_and, and_true, decide_eq_true_eq, decide_eq_false_iff_not, gd_st, gd_sf, exists_eq_left', exists_eq_left, Option.some.injEq, Sl.eta, Nat.reduceLeDiff, Int.reduceLE, Int.reduceLT, Int.reduceEq, Int.reduceNe, Nat.reduceMul, Nat.reduceAdd, Nat.reduceSub, Int.toNat_natCast, beq_iff_eq, bne_iff_ne, beq_eq_false_iff_ne, bne_eq_false_iff_eq, pick_and, pick_or, Bool.and_eq_true, Bool.or_eq_true, Bool.and_eq_false_iff, Bool.or_eq_false_iff, ne_eq, not_false_eq_true, Bool.not_eq_true', Bool.not_eq_false', reduceCtorEq, Nat.le_refl, Nat.zero_mul, Nat.mul_one, Nat.zero_add, Int.reduceToNat, ones, one, add_mk, Decidable.not_not, cond_true, cond_false, true_implies, false_implies, implies_true, Bool.not_true, Bool.not_false]
  refine ⟨by omega, hb3.canSet _ (by rw [uv_length, clr_len hfit']; omega), fun w4 hs4 => ?_⟩
  have hb4 := hs4.blk1 hb3
  refine ⟨by omega, hb4.canSet _ (by rw [List.length_set, uv_length, clr_len hfit']; omega), fun w5 hs5 w6 q6 => ?_⟩
  have hb5 := hs5.blk1 hb4
  rw [show IntKind.u64.wrap (m : Nat) = ((m : Nat) : Int) from wrap_u64 (by omega) (by omega), pack m t (by omega) (by omega),
    show IntKind.u64.wrap (a : Nat) = ((a : Nat) : Int) from wrap_u64 (by omega) (by omega),
    show shlV .u64 (a : Nat) 32 = ((a * 4294967296 : Nat) : Int) by rw [show shlV .u64 (a : Nat) 32 = _ from shl_u64 a 32 (by decide)]; congr 1; omega, uv_set, uv_set, Nat.add_zero] at hb5
  have hcl := clr_len hfit'
  generalize hcs : ((clr cs (used L) (3 + m + t)).set (used L) (a * 4294967296)).set (used L + 1) (m * 4294967296 + t) = cs5 at hb5
  have hl5 : cs5.length = words := by rw [← hcs]; simp [hcl, hlen]
  have u26 : Upd (· = gr) w2 w6 := ((hu3.same hs4.upd).same hs5.upd).ext q6.ext
  have hgr : g ≠ gr := Ne.symm h.ne
  have hd6 := h2.hd.upd u26 hgr
  have fst6 := h2.fst.upd u26 fun p hp => (h.off p hp).2
  have hrow6 := hb5.ext q6.ext
  have hSg : ¬ (∃ p, fs.a = some p ∧ g = p.block) := fun ⟨p, hp, e⟩ => (h.off p hp).1 e.symm
  have hSr : ¬ (∃ p, fs.a = some p ∧ gr = p.block) := fun ⟨p, hp, e⟩ => (h.off p hp).2 e.symm
  refine ⟨fun k => ∃ p, fs.a = some p ∧ k = p.block, fs, fun w' hu => ?_, (used L : Nat), fun w' hu => ?_, fun w7 n7 => ⟨n7.ext.mono fun _ _ _ => not_false, ?_⟩⟩
  · exact (hd6.upd hu hSg).cell 2
  · exact (hd6.upd hu hSg).cell 1
  have hx7 : Rd w7 1 ⟨some ⟨w6.heap.size, 0, none⟩, 1, 1⟩ [.int .i64 (used L : Nat)] := (Blk.new n7).rd (by simp)
  have hll := StkAt.snoc_len L
  have hn := h.lenS
  obtain ⟨r, w8, hr8, hrn, ho8, hu8, hfr8⟩ := (fst6.ext n7.ext).append (t := 30) (ty := 30) tab_ok rfl rfl (by decide) hx7 (by intro v hv; simp at hv; subst hv; trivial) (by simp only; omega) (by simp only; omega) (Nat.zero_le _)
  have hd8 := (hd6.ext n7.ext).upd hu8 hSg
  refine ⟨r, w8, hr8, hu8, hd8.canSet 2 (by simp), fun w9 hs9 => ?_⟩
  have hd9 := hs9.blk1 hd8
  simp only [List.set_cons_succ, List.set_cons_zero] at hd9
  simp only [hd9.cell, List.getElem?_cons_zero, List.getElem?_cons_succ, ex_sl, Value.int.injEq, Value.bool.injEq, Value.pointer.injEq, Value.string.injEq, eq_self, true_and, and_true, decide_eq_true_eq, decide_eq_false_iff_not, gd_st, gd_sf, exists_eq_left', exists_eq_left, Option.some.injEq, Sl.eta, Nat.reduceLeDiff, Int.reduceLE, Int.reduceLT, Int.reduceEq, Int.reduceNe, Nat.reduceMul, Nat.reduceAdd, Nat.reduceSub, Int.toNat_natCast, beq_iff_eq, bne_iff_ne, beq_eq_false_iff_ne, bne_eq_false_iff_eq, pick_and, pick_or, Bool.and_eq_true, Bool.or_eq_true, Bool.and_eq_false_iff, Bool.or_eq_false_iff, ne_eq, not_false_eq_true, Bool.not_eq_true', Bool.not_eq_false', reduceCtorEq, Nat.le_refl, Nat.zero_mul, Nat.mul_one, Nat.zero_add, Int.reduceToNat, ones, one, add_mk, Decidable.not_not, cond_true, cond_false, true_implies, false_implies, implies_true, Bool.not_true, Bool.not_false]
  refine ⟨hd9.canSet 1 (by simp), fun w10 hs10 => ⟨?_, ?_⟩⟩
  · have hd10 := hs10.upd
    have u1 : Upd F w w2 := (q1.ext.trans q2.ext).mono fun _ _ _ => not_false
    have u2 : Upd F w2 w6 := u26.mono fun k _ hk e => hk (e ▸ f2)
    have u3 : Upd F w6 w8 := n7.ext.upd (hu8.mono fun k _ hk ⟨p, hp, e⟩ => hk (e ▸ f3 p hp))
    have u4 : Upd F w8 w9 := hs9.upd.mono fun k _ hk e => hk (e ▸ f1)
    have u5 : Upd F w9 w10 := hs10.upd.mono fun k _ hk e => hk (e ▸ f1)
    exact (((u1.same u2).same u3).same u4).same u5
  · have hd10 := hs10.blk1 hd9
    simp only [List.set_cons_succ, List.set_cons_zero] at hd10
    have u810 : Upd (· = g) w8 w10 := hs9.upd.same hs10.upd
    have s27 : w2.heap.size ≤ w7.heap.size := Nat.le_trans u26.size n7.ext.size
    have hrg : ∀ p, r.a = some p → p.block ≠ g ∧ p.block ≠ gr := by
      intro p hp
      rcases hfr8 p hp with h' | h'
      · exact h.off p h'
      · have e1 := h2.hd.lt
        have e2 := h2.row.lt
        exact ⟨by omega, by omega⟩
    have hus : used (L ++ [⟨a, 0, t, List.replicate m 0, []⟩]) = used L + (3 + m + t) := by rw [used_append, used_one]; simp [Fr.size]
    refine ⟨fun k => k = g ∨ k = gr ∨ ∃ p, r.a = some p ∧ k = p.block, ⟨gr, r, cs5, ⟨?_, ?_, hl5, ?_, ?_, ?_, hbig, h.ne, hrg⟩, .inl rfl, .inr (.inl rfl), fun p hp => .inr (.inr ⟨p, hp, rfl⟩), fun k hk => hk⟩, ?_⟩
    · rw [hus]
      rw [wrap_i64 (by omega) (by omega), show ((used L : Int) + (3 + m + t)) = ((used L + (3 + m + t) : Nat) : Int) by push_cast; omega] at hd10
      exact hd10
    · exact ((hrow6.ext n7.ext).upd hu8 hSr).upd u810 h.ne
    · rw [starts_append, iv_append]
      have := ho8.upd u810 fun p hp => (hrg p hp).1
      simpa [starts, iv] using this
    · rw [lay_append]
      simp only [Nat.zero_add, LayR, and_true]
      refine ⟨lay_congr L _ h.lay fun j h1 h2 => ?_, ⟨⟨by simp only; omega, by simp only; omega, by simp; omega, by simp only; omega, by simp⟩, ?_, ?_, ?_, ?_, ?_⟩⟩
      · rw [← hcs, List.getElem?_set_ne (by omega), List.getElem?_set_ne (by omega), clr_out hfit' (by omega)]
      · rw [← hcs, List.getElem?_set_ne (by omega), List.getElem?_set_self (by omega)]; show some (a * 4294967296) = some (a * 4294967296 + 0); rw [Nat.add_zero]
      · rw [← hcs, List.getElem?_set_self (by rw [List.length_set]; omega)]; simp
      · rw [← hcs, List.getElem?_set_ne (by omega), List.getElem?_set_ne (by omega), clr_in hfit' (by omega) (by omega)]; rfl
      · intro j v hv
        simp only [List.getElem?_replicate] at hv
        split at hv
        · rename_i hj
          injection hv with hv
          subst hv
          rw [← hcs, List.getElem?_set_ne (by omega), List.getElem?_set_ne (by omega), clr_in hfit' (by omega) (by omega)]
        · cases hv
      · intro j v hv; simp at hv
    · rw [hus]; omega
    · rintro k (rfl | rfl | ⟨p, hp, rfl⟩)
      · exact .inl f1
      · exact .inl f2
      · rcases hfr8 p hp with h' | h'
        · exact .inl (f3 p h')
        · right
          have e1 := (q1.ext.trans q2.ext).size
          omega
end
end Go.Proofs.Ytodbmiflnellcaa.V
