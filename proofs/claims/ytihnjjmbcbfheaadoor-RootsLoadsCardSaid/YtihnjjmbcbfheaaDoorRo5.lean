/-
  The program's Load.
-/
import Derived.Test.YtihnjjmbcbfheaaDoorRo4
import Derived.Test.YtihnjjmbcbfheaaDoorVcD
namespace Go.Proofs.YtihnjjmbcbfheaaDoor.V
open Go Go.RowKit
set_option linter.unusedVariables false
set_option linter.unusedSimpArgs false
set_option linter.unusedSectionVars false
set_option maxRecDepth 100000

section
variable {w w' : World} {t r B g : Nat} {n : Int} {f : FS} {bs : List Nat} {s : RS} {sl : Sl}
theorem addF_snoc (f : FS) (fn : Int) (l : List Pl) (p : Pl) : addF f fn (l ++ [p]) = putF (addF f fn l) fn p := by unfold addF; rw [List.foldl_append]; rfl
theorem Own.off_map {e z : Nat} {xs : List Value} (h : Own w B e z sl xs) (M : MapS w r f) : sl.off (· = r) := fun p hp e => by
  obtain ⟨g', cs, ha, _, hb, _⟩ := h.blk (by rw [hp]; simp)
  rw [hp] at ha; injection ha with ha; subst ha
  exact M.ne hb e
theorem Own.off_blk {e z T : Nat} {xs cs : List Value} (h : Own w B e z sl xs) (hb : Blk w g T cs) (hne : e ≠ T) : sl.off (· = g) := fun p hp e => own_blk_ne h hb hne p hp e
theorem Rdr.off_map (h : Rdr w B g bs s sl) (M : MapS w r f) : sl.off (· = r) := h.own.off_map M
/-- blocks of a reader and of a map -/
abbrev GR (g r : Nat) : Nat → Prop := fun k => k = g ∨ k = r
set_option maxHeartbeats 1000000 in
theorem read_spec (h : Rdr w B g bs s sl) (T : Tbl w t r n f) (fn : Int) :
    Calls Tryd.prog 14 #[.pointer (some ⟨t, 0, none⟩), .pointer (some ⟨g, 0, none⟩), .int .i64 fn] w fun e w' => e = .returned (.tuple #[]) ∧ Rdr w' B g bs (rdT bs s).2 sl ∧
      (∃ f', Tbl w' t r n f' ∧ ((rdT bs s).2.er = 0 → f' = addF f fn (rdT bs s).1)) ∧ Upd (GR g r) w w' := by
  have hgt : g ≠ t := h.blk.ne T.blk (by decide)
  have hgr : g ≠ r := T.map.ne h.blk
  have hso : sl.off (· = r) := h.off_map T.map
  refine vc_14 _ _ _ _ _ ?_
  simp only [eq_self, false_or, or_false, true_and, and_true, decide_eq_true_eq, decide_eq_false_iff_not, gd_st, gd_sf, exists_eq_left', exists_eq_left, Option.some.injEq, Sl.eta, Nat.reduceLeDiff, Int.reduceLE, Int.reduceLT, Int.reduceEq, Int.reduceNe, Nat.reduceMul, Nat.reduceAdd, Nat.reduceSub, Int.toNat_natCast, beq_iff_eq, bne_iff_ne, beq_eq_false_iff_ne, bne_eq_false_iff_eq, pick_and, pick_or, Bool.and_eq_true, Bool.or_eq_true, Bool.and_eq_false_iff, Bool.or_eq_false_iff, ne_eq, not_false_eq_true, Bool.not_eq_true', Bool.not_eq_false', reduceCtorEq, Nat.le_refl, Nat.zero_mul, Nat.mul_one, Nat.zero_add, Int.reduceToNat, ones, one, add_mk, Decidable.not_not, cond_true, cond_false, true_implies, false_implies, implies_true, Bool.not_true, Bool.not_false]
  refine ⟨(uint_spec 300 5 h).mono ?_⟩
  rintro e w1 ⟨rfl, h1, u1⟩
  have T1 := T.upd u1 (fun e => hgt e.symm) (fun e => hgr e.symm)
  have hcnt : (s.uint bs 300 5).1 ≤ 300 := uint_le (by decide)
  have toGR : ∀ {a b : World}, Upd (· = g) a b → Upd (GR g r) a b := fun u => u.mono fun i _ hr hg => hr (.inl hg)
  refine ⟨_, rfl, fun nx c w' => ∃ (x m : Nat) (s' : RS) (l : List Pl), nx = (x : Nat) ∧ c = (m : Nat) ∧ x ≤ 300 ∧ m ≤ 300 ∧ (m = 0 ∨ s'.er = 0) ∧ Rdr w' B g bs s' sl ∧ Tbl w' t r n (addF f fn l) ∧
      rdT bs s = (l ++ (rowT bs m s' x).1, (rowT bs m s' x).2) ∧ Upd (GR g r) w w', fun _ c _ => c.toNat, ⟨0, _, _, [], rfl, rfl, by omega, hcnt, ?_, h1, T1, rfl, toGR u1⟩, ?_⟩
  · rcases Decidable.em ((s.uint bs 300 5).2.er = 0) with h0 | h0
    · exact .inr h0
    · refine .inl ?_
      by_cases hs : s.er = 0
      · unfold RS.uint at h0 ⊢
        rw [if_neg (by rw [hs]; simp)] at h0 ⊢
        split
        · rfl
        · rfl
        · rename_i hp
          split
          · rfl
          · rename_i hc
            rw [hp] at h0
            simp only [if_neg hc] at h0
            exact absurd hs h0
      · rw [uint_bad hs]
  rintro _ nx c w2 ⟨x, m, s2, l, rfl, rfl, hx, hm, hor, h2, T2, e2, u2⟩
  refine ⟨fun hpos => ?_, fun hz => ?_⟩
  rotate_left
  · have : m = 0 := by omega
    subst this
    have e3 : rdT bs s = (l, s2) := by rw [e2]; simp [rowT]
    rw [e3]
    exact ⟨h2, ⟨_, T2, fun _ => rfl⟩, u2⟩
  obtain ⟨m, rfl⟩ : ∃ k, m = k + 1 := ⟨m - 1, by omega⟩
  have h0 : s2.er = 0 := hor.resolve_left (by omega)
  rw [rowT_step h0] at e2
  refine ⟨(at_spec h2).mono ?_⟩
  rintro e w3 ⟨rfl, q3⟩
  have h3 := h2.ext q3.ext
  have T3 := T2.ext q3.ext
  refine ⟨_, rfl, ⟨(uint_spec 299 7 h3).mono ?_⟩⟩
  rintro e w4 ⟨rfl, h4, u4⟩
  have T4 := T3.upd u4 (fun e => hgt e.symm) (fun e => hgr e.symm)
  have hA : (s2.uint bs 299 7).1 ≤ 299 := uint_le (by decide)
  have ea : IntKind.i64.wrap ((x : Int) + IntKind.i64.wrap ((s2.uint bs 299 7).1 : Nat)) = ((plA bs s2 x : Nat) : Int) := by
    rw [wrap_i64 (n := ((s2.uint bs 299 7).1 : Int)) (by omega) (by omega), wrap_i64 (by omega) (by omega)]; unfold plA; omega
  refine ⟨_, rfl, ?_⟩
  simp only [ea]
  refine ⟨fun w' => Rdr w' B g bs (plS bs s2 x) sl ∧ Tbl w' t r n (addF f fn l) ∧ Upd (GR g r) w w', ⟨fun hge => ⟨(fail_spec _ _ h4).mono ?_⟩, fun hlt => ⟨?_, T4, (u2.ext q3.ext).same (toGR u4)⟩⟩, ?_⟩
  · rintro e w5 ⟨rfl, h5, u5⟩
    have eS : plS bs s2 x = (s2.uint bs 299 7).2.fail s2.k 7 := by unfold plS; dsimp only; rw [if_pos (by unfold plA at hge; omega)]
    rw [eS]
    exact ⟨_, rfl, h5, T4.upd u5 (fun e => hgt e.symm) (fun e => hgr e.symm), ((u2.ext q3.ext).same (toGR u4)).same (toGR u5)⟩
  · have eS : plS bs s2 x = (s2.uint bs 299 7).2 := by unfold plS; dsimp only; rw [if_neg (by unfold plA at hlt; omega)]
    rw [eS]
    exact h4
  rintro _ w5 ⟨h5, T5, u5⟩
  refine ⟨(uint_spec 4294967295 7 h5).mono ?_⟩
  rintro e w6 ⟨rfl, h6, u6⟩
  have T6 := T5.upd u6 (fun e => hgt e.symm) (fun e => hgr e.symm)
  refine ⟨_, rfl, ⟨(uint_spec 16777215 7 h6).mono ?_⟩⟩
  rintro e w7 ⟨rfl, h7, u7⟩
  have T7 := T6.upd u7 (fun e => hgt e.symm) (fun e => hgr e.symm)
  have u07 := (u5.same (toGR u6)).same (toGR u7)
  have eL : (plS bs s2 x).uint bs 4294967295 7 = plL bs s2 x := rfl
  have eK : (plL bs s2 x).2.uint bs 16777215 7 = plK bs s2 x := rfl
  rw [eL] at h6 h7 ⊢
  rw [eK] at h7 ⊢
  refine ⟨_, rfl, (by show 2 ≤ 2; decide), fun w8 n8 => ⟨rfl, (Blk.new n8).canSetN 0 2 (by simp), fun w9 s9 => ?_⟩⟩
  have k9 : Blk w9 w7.heap.size 44 [.int .u64 ((plL bs s2 x).1 : Nat), .int .u64 ((plK bs s2 x).1 : Nat)] := s9.blk (Blk.new n8)
  have x79 : Ext w7 w9 := n8.ext.fresh s9.upd (by rintro i rfl; exact Nat.le_refl _)
  have h9 := h7.ext x79
  have T9 := T7.ext x79
  refine ⟨(fault_spec h9).mono ?_⟩
  rintro e w10 ⟨rfl, q10⟩
  have h10 := h9.ext q10.ext
  have T10 := T9.ext q10.ext
  have k10 := k9.ext q10.ext
  have u10 := (u07.ext x79).ext q10.ext
  refine ⟨_, _, rfl, fun hne => ?_, fun hz => ?_⟩
  · rw [rowT_bad hne] at e2
    rw [e2]
    exact ⟨h10, ⟨_, T10, fun h0 => absurd h0 hne⟩, u10⟩
  · intro w11 q11
    have T11 := T10.ext q11.ext
    have k11 := k10.ext q11.ext
    have h11 := h10.ext q11.ext
    obtain ⟨w12, hput, M12, u12⟩ := T11.map.put fn (plA bs s2 x : Nat) ((plL bs s2 x).1, (plK bs s2 x).1)
    have htr : t ≠ r := T11.map.ne T11.blk
    have hL : (plL bs s2 x).2.er = 0 := by
      rcases Decidable.em ((plL bs s2 x).2.er = 0) with h1 | h1
      · exact h1
      · have := hz; rw [← eK, uint_bad h1] at this; exact absurd this h1
    have hS : (plS bs s2 x).er = 0 := by
      rcases Decidable.em ((plS bs s2 x).er = 0) with h1 | h1
      · exact h1
      · rw [← eL, uint_bad h1] at hL; exact absurd hL h1
    have hlt := (plS_ok hS).2.2
    have e12 : IntKind.i64.wrap (((plA bs s2 x : Nat) : Int) + 1) = ((plA bs s2 x + 1 : Nat) : Int) := by rw [wrap_i64 (by omega) (by omega)]; omega
    have e13 : IntKind.u64.wrap (((m + 1 : Nat) : Int) - 1) = ((m : Nat) : Int) := by rw [wrap_u64 (by omega) (by omega)]; omega
    rw [e12, e13]
    refine ⟨fun _ => False, some r, fun w' u => (T11.ext u).blk.cell 1, (by show 2 ≤ 2; decide), _, _, rfl, fun w' u => ⟨(k11.ext u).cell 0, (k11.ext u).cell 1⟩, w12, hput, ⟨plA bs s2 x + 1, m, _, l ++ [⟨plA bs s2 x, (plL bs s2 x).1, (plK bs s2 x).1⟩], rfl, rfl, by omega, by omega, .inr hz, h11.upd u12 (fun e => hgr e) hso, ⟨T11.blk.upd u12 htr, ?_⟩, ?_, (u10.ext q11.ext).same (u12.mono fun i _ hr hg => hr (.inr hg))⟩, by omega⟩
    · rw [addF_snoc]; exact M12
    · rw [e2, List.append_assoc]; rfl
set_option maxHeartbeats 1000000 in
theorem load_spec {v : Sl} {xs : List Nat} (hr : Rd w 1 v (bv xs)) (hl : v.n ≤ 140737488355328) (h8 : ∀ x ∈ xs, x < 256) :
    Calls Tryd.prog 5 #[.slice v.a v.n v.c] w fun e w' => Ext w w' ∧
      (((loadT xs).2.er ≠ 0 ∧ ∃ p, e = .returned (.tuple #[.pointer none, .iface 33 (.pointer (some ⟨p, 0, none⟩))]) ∧ Blk w' p 37 [.int .i64 (loadT xs).2.pl, .int .i64 (loadT xs).2.er] ∧ w.heap.size ≤ p) ∨
       ((loadT xs).2.er = 0 ∧ ∃ t r, e = .returned (.tuple #[.pointer (some ⟨t, 0, none⟩), .nilIface]) ∧ Tbl w' t r ((loadT xs).1.length : Nat) (tblF 0 (loadT xs).1 f0) ∧ w.heap.size ≤ t ∧ w.heap.size ≤ r)) := by
  refine vc_5 _ _ _ ?_
  simp only [eq_self, false_or, or_false, true_and, and_true, decide_eq_true_eq, decide_eq_false_iff_not, gd_st, gd_sf, exists_eq_left', exists_eq_left, Option.some.injEq, Sl.eta, Nat.reduceLeDiff, Int.reduceLE, Int.reduceLT, Int.reduceEq, Int.reduceNe, Nat.reduceMul, Nat.reduceAdd, Nat.reduceSub, Int.toNat_natCast, beq_iff_eq, bne_iff_ne, beq_eq_false_iff_ne, bne_eq_false_iff_eq, pick_and, pick_or, Bool.and_eq_true, Bool.or_eq_true, Bool.and_eq_false_iff, Bool.or_eq_false_iff, ne_eq, not_false_eq_true, Bool.not_eq_true', Bool.not_eq_false', reduceCtorEq, Nat.le_refl, Nat.zero_mul, Nat.mul_one, Nat.zero_add, Int.reduceToNat, ones, one, add_mk, Decidable.not_not, cond_true, cond_false, true_implies, false_implies, implies_true, Bool.not_true, Bool.not_false]
  refine ⟨(newreader_spec v xs w hr hl h8).mono ?_⟩
  rintro e w1 ⟨g, sl, rfl, h1, x1⟩
  obtain ⟨w2, hmk, n2⟩ := run_makeMapS (w := w1) (mty := 49)
  have hg := h1.blk.lt
  refine ⟨_, rfl, _, w2, hmk, fun w3 n3 => ?_⟩
  have M2 : MapS w2 w1.heap.size f0 := MapS.new n2
  have T3 : Tbl w3 w2.heap.size w1.heap.size 0 f0 := ⟨Blk.new n3, M2.ext n3.ext⟩
  have h3 := (h1.ext n2.ext).ext n3.ext
  have z1 := x1.size
  have z2 := n2.size
  have htr : w2.heap.size ≠ w1.heap.size := by omega
  have hgt : g ≠ w2.heap.size := by omega
  have hgr : g ≠ w1.heap.size := by omega
  have hst : sl.off (· = w2.heap.size) := h3.own.off_blk T3.blk (by decide)
  have hsr : sl.off (· = w1.heap.size) := h3.own.off_map T3.map
  generalize hte : w2.heap.size = t at *
  generalize hre : w1.heap.size = r at *
  refine ⟨(uint_spec 50 5 h3).mono ?_⟩
  rintro e w4 ⟨rfl, h4, u4⟩
  have eh : (⟨0, 0, 0⟩ : RS).uint xs 50 5 = hdT xs := rfl
  rw [eh] at h4 ⊢
  have hN : (hdT xs).1 ≤ 50 := uint_le (by decide)
  have T4 := T3.upd u4 (fun e => hgt e.symm) (fun e => hgr e.symm)
  refine ⟨_, rfl, T4.blk.canSet 0 (by simp), fun w5 s5 => ?_⟩
  have k5 := s5.blk1 T4.blk
  have eN : IntKind.i64.wrap (((hdT xs).1 : Nat) : Int) = ((hdT xs).1 : Nat) := wrap_i64 (by omega) (by omega)
  rw [eN] at k5
  have T5 : Tbl w5 t r ((hdT xs).1 : Nat) f0 := ⟨k5, T4.map.upd s5.upd (fun e => htr e.symm)⟩
  have h5 : Rdr w5 w.heap.size g xs (hdT xs).2 sl := h4.upd s5.upd (fun e => hgt e) hst
  have bg := h5.base
  have x5 : Ext w w5 := (((x1.trans n2.ext).trans n3.ext).fresh u4 (by rintro i rfl; exact bg)).fresh s5.upd (fun i hi => by have hi : i = t := hi; omega)
  refine ⟨_, k5.cell 0, fun n w' => ∃ (i : Nat) (s' : RS) (T' : List (List Pl)) (f' : FS), n = (i : Nat) ∧ i ≤ (hdT xs).1 ∧ Rdr w' w.heap.size g xs s' sl ∧ Tbl w' t r ((hdT xs).1 : Nat) f' ∧ (s'.er = 0 → T'.length = i ∧ f' = tblF 0 T' f0) ∧
    alT xs = (T' ++ (rowsT xs ((hdT xs).1 - i) s').1, (rowsT xs ((hdT xs).1 - i) s').2) ∧ Ext w w', fun n _ => ((hdT xs).1 - n).toNat, ⟨0, _, [], f0, rfl, Nat.zero_le _, h5, T5, fun _ => ⟨rfl, rfl⟩, rfl, x5⟩, ?_⟩
  rintro _ n w6 ⟨i, s', T', f', rfl, hi, h6, T6, e6, ea, x6⟩
  have ei : IntKind.i64.wrap ((i : Int) + 1) = ((i + 1 : Nat) : Int) := by rw [wrap_i64 (by omega) (by omega)]; omega
  rw [ei]
  refine ⟨fun hlt => ⟨(read_spec h6 T6 (i : Nat)).mono ?_⟩, fun hge => ?_⟩
  · rintro e w7 ⟨rfl, h7, ⟨f7, T7, e7⟩, u7⟩
    have x7 : Ext w w7 := x6.fresh u7 (by rintro k (rfl | rfl) <;> omega)
    obtain ⟨k, hk⟩ : ∃ k, (hdT xs).1 - i = k + 1 := ⟨(hdT xs).1 - (i + 1), by omega⟩
    have hk1 : (hdT xs).1 - (i + 1) = k := by omega
    by_cases h0 : s'.er = 0
    · obtain ⟨g1, g2⟩ := e6 h0
      rw [hk, rowsT_step h0] at ea
      refine ⟨_, rfl, ⟨i + 1, _, T' ++ [(rdT xs s').1], f7, rfl, by omega, h7, T7, fun h1 => ⟨by rw [List.length_append, g1]; rfl, ?_⟩, ?_, x7⟩, by show (((hdT xs).1 : Int) - ((i + 1 : Nat) : Int)).toNat < (((hdT xs).1 : Int) - (i : Int)).toNat; omega⟩
      · rw [tblF_append, ← g2, e7 h1, g1, Nat.zero_add]
      · rw [hk1, ea, List.append_assoc]; rfl
    · rw [rdT_bad h0] at h7
      rw [hk, rowsT_bad h0] at ea
      refine ⟨_, rfl, ⟨i + 1, s', T', f7, rfl, by omega, h7, T7, fun h1 => absurd h1 h0, ?_, x7⟩, by show (((hdT xs).1 : Int) - ((i + 1 : Nat) : Int)).toNat < (((hdT xs).1 : Int) - (i : Int)).toNat; omega⟩
      rw [hk1, rowsT_bad h0]; exact ea
  · have hiN : i = (hdT xs).1 := by omega
    subst hiN
    rw [Nat.sub_self] at ea
    have ea : alT xs = (T', s') := by rw [ea]; simp [rowsT]
    have el : loadT xs = (T', endT xs s') := by unfold loadT; rw [ea]
    rw [el]
    refine ⟨fun w' => Rdr w' w.heap.size g xs (endT xs s') sl ∧ Tbl w' t r ((hdT xs).1 : Nat) f' ∧ Ext w w', ⟨(left_spec h6).mono ?_⟩, ?_⟩
    · rintro e w7 ⟨rfl, q7⟩
      have h7 := h6.ext q7.ext
      have T7 := T6.ext q7.ext
      refine ⟨_, rfl, fun hpos => ⟨(at_spec h7).mono ?_⟩, fun hz => ⟨?_, T7, x6.trans q7.ext⟩⟩
      · rintro e w8 ⟨rfl, q8⟩
        have h8' := h7.ext q8.ext
        refine ⟨_, rfl, ⟨(fail_spec _ _ h8').mono ?_⟩⟩
        rintro e w9 ⟨rfl, h9, u9⟩
        have eE : endT xs s' = s'.fail s'.k 10 := by unfold endT; rw [if_pos (by omega)]
        rw [eE]
        exact ⟨_, rfl, h9, (T7.ext q8.ext).upd u9 (fun e => hgt e.symm) (fun e => hgr e.symm), ((x6.trans q7.ext).trans q8.ext).fresh u9 (by rintro k rfl; exact bg)⟩
      · have eE : endT xs s' = s' := by unfold endT; rw [if_neg (by omega)]
        rw [eE]
        exact h7
    · rintro _ w7 ⟨h7, T7, x7⟩
      refine ⟨(fault_spec h7).mono ?_⟩
      rintro e w8 ⟨rfl, q8⟩
      have x8 := x7.trans q8.ext
      refine ⟨_, _, rfl, fun hne => ⟨(by show 2 ≤ 2; decide), fun w9 n9 => ⟨x8.trans n9.ext, .inl ⟨hne, _, rfl, Blk.new n9, x8.size⟩⟩⟩, fun hz => ⟨x8, .inr ⟨hz, t, r, rfl, ?_, by omega, by omega⟩⟩⟩
      have h0 : s'.er = 0 := by
        have hz : (endT xs s').er = 0 := hz
        unfold endT at hz
        split at hz
        · exact absurd hz (fail_er (by decide))
        · exact hz
      obtain ⟨g1, g2⟩ := e6 h0
      rw [← g2, g1]
      exact T7.ext q8.ext
end
end Go.Proofs.YtihnjjmbcbfheaaDoor.V
