/-
  What the law asks of both tables; the program's Bytes.
-/
import Derived.Test.YtihnjjmbcbfheaaDoorRo7
namespace Go.Proofs.YtihnjjmbcbfheaaDoor.V
open Go Go.RowKit
set_option linter.unusedVariables false
set_option linter.unusedSimpArgs false
set_option linter.unusedSectionVars false
set_option maxRecDepth 100000

theorem atT_lt {T : List (List Pl)} (hO : ∀ l ∈ T, l.length ≤ 300 ∧ Okp 0 l) (x y : Int) (h : atT T x y ≠ none) : 0 ≤ y ∧ y < 300 := by
  rw [← sites_mem] at h
  unfold sitesT at h
  obtain ⟨p, hp, rfl⟩ := List.mem_map.1 h
  have := okp_ge (rowAt_ok hO x).2 p hp
  omega
theorem find_okp : ∀ {l : List Pl} {nx : Nat}, Okp nx l → ∀ {x : Pl}, x ∈ l → l.find? (fun p => decide (((p.at_ : Nat) : Int) = ((x.at_ : Nat) : Int))) = some x
  | [], _, _, x, hx => by cases hx
  | q :: l, nx, ⟨h1, h2, h3, h4, h5⟩, x, hx => by
    rcases List.mem_cons.1 hx with rfl | hx
    · rw [List.find?_cons_of_pos (by simp)]
    · have := okp_ge h5 x hx
      rw [List.find?_cons_of_neg (by simp; omega)]
      exact find_okp h5 hx
theorem atT_row {T : List (List Pl)} (hO : ∀ l ∈ T, l.length ≤ 300 ∧ Okp 0 l) {fn : Int} {x : Pl} (hx : x ∈ rowAt T fn) : atT T fn ((x.at_ : Nat) : Int) = some (x.loc, x.stk) := by
  unfold atT
  rw [find_okp (rowAt_ok hO fn).2 hx]; rfl
section
variable {w w' : World} {t r : Nat} {n : Int} {x : Sl} {T : List (List Pl)}
theorem sites_is (hO : ∀ l ∈ T, l.length ≤ 300 ∧ Okp 0 l) {fn : Int} {l : List Int} (hs : l.Pairwise (· < ·)) (hm : ∀ y, y ∈ l ↔ atT T fn y ≠ none) : l = sitesT T fn :=
  eq_of_sorted_mem hs (okp_sorted (rowAt_ok hO fn).2) fun y => by rw [hm, sites_mem]
set_option maxHeartbeats 2000000 in
theorem told_spec (h : Tbl w t r n (atT T)) (D : DTK w x T) (hO : ∀ l ∈ T, l.length ≤ 300 ∧ Okp 0 l) (fn more : Int) :
    Calls Tryd.prog 9 #[.pointer (some ⟨t, 0, none⟩), .slice x.a x.n x.c, .int .i64 fn, .int .i64 more] w fun e w' => e = .returned (.bool true) ∧ Ext w w' := by
  refine vc_9 _ _ _ _ _ _ ?_
  simp only [eq_self, false_or, or_false, true_and, and_true, decide_eq_true_eq, decide_eq_false_iff_not, gd_st, gd_sf, exists_eq_left', exists_eq_left, Option.some.injEq, Sl.eta, Nat.reduceLeDiff, Int.reduceLE, Int.reduceLT, Int.reduceEq, Int.reduceNe, Nat.reduceMul, Nat.reduceAdd, Nat.reduceSub, Int.toNat_natCast, beq_iff_eq, bne_iff_ne, beq_eq_false_iff_ne, bne_eq_false_iff_eq, pick_and, pick_or, Bool.and_eq_true, Bool.or_eq_true, Bool.and_eq_false_iff, Bool.or_eq_false_iff, ne_eq, not_false_eq_true, Bool.not_eq_true', Bool.not_eq_false', reduceCtorEq, Nat.le_refl, Nat.zero_mul, Nat.mul_one, Nat.zero_add, Int.reduceToNat, ones, one, add_mk, Decidable.not_not, cond_true, cond_false, true_implies, false_implies, implies_true, Bool.not_true, Bool.not_false]
  refine ⟨(tsites_spec h fn (atT_lt hO)).mono ?_⟩
  rintro e w1 ⟨s1, l, rfl, o1, hs, hm, x1⟩
  have el := sites_is hO hs hm
  have hll : l.length ≤ 300 := by rw [el]; unfold sitesT; rw [List.length_map]; exact (rowAt_ok hO fn).1
  have hsn := o1.rd.leni
  refine ⟨s1, rfl, ⟨(rsites_spec (D.ext x1) hO fn).mono ?_⟩⟩
  rintro e w2 ⟨s2, rfl, o2, x2⟩
  rw [← el] at o2
  refine ⟨s2, rfl, ⟨(same_spec (o1.ext x2).rd o2.rd (by omega)).mono ?_⟩⟩
  rintro e w3 ⟨rfl, x3⟩
  refine ⟨_, rfl, fun h => (by cases h), fun _ => ?_⟩
  refine ⟨fun n w' => ∃ (i : Nat) (vs : List Value), n = (i : Nat) ∧ i ≤ s1.n ∧ Own w' w.heap.size 3 1 s1 vs ∧ Ext w w', fun n _ => (s1.n - n).toNat, ⟨0, _, rfl, Nat.zero_le _, (o1.ext x2).ext x3, (x1.trans x2).trans x3⟩, ?_⟩
  rintro _ n w4 ⟨i, vs, rfl, hi, o4, x4⟩
  have ei : IntKind.i64.wrap ((i : Int) + 1) = ((i + 1 : Nat) : Int) := by rw [wrap_i64 (by omega) (by omega)]; omega
  rw [ei]
  simp only [Int.toNat_natCast]
  refine ⟨fun hlt => ?_, fun hge => ?_⟩
  · cases hsa : s1.a with
    | none =>
      have := (o4.none_ hsa).1
      rw [this] at hlt
      exact absurd hlt (by dsimp only; omega)
    | some p =>
      refine ⟨by omega, by omega, p, rfl, o4.canAt hsa (by omega), fun w5 s5 => ?_⟩
      obtain ⟨o5, u5⟩ := o4.setAt hsa (by omega) s5
      exact ⟨⟨i + 1, _, rfl, by omega, o5, x4.fresh u5 (by rintro j rfl; exact (o4.base p hsa).1)⟩, by omega⟩
  refine ⟨fun n w' => ∃ k : Nat, n = (k : Int) - 1 ∧ k ≤ 302 ∧ Ext w w', fun n _ => (301 - n).toNat, ⟨0, rfl, Nat.zero_le _, x4⟩, ?_⟩
  rintro _ n w5 ⟨k, rfl, hk, x5⟩
  have ek : IntKind.i64.wrap ((k : Int) - 1 + 1) = ((k + 1 : Nat) : Int) - 1 := by rw [wrap_i64 (by omega) (by omega)]; omega
  rw [ek]
  refine ⟨fun hle => ⟨(tat_spec (h.ext x5) fn _).mono ?_⟩, fun hgt => ⟨(tat_spec (h.ext x5) fn more).mono ?_⟩⟩
  · rintro e w6 ⟨rfl, x6⟩
    refine ⟨_, _, _, rfl, fun w7 n7 => ⟨rfl, (Blk.new n7).canSetN 0 2 (by simp), fun w8 s8 => ?_⟩⟩
    have k8 := s8.blk (Blk.new n7)
    have x68 : Ext w6 w8 := n7.ext.fresh s8.upd (by rintro j rfl; exact Nat.le_refl _)
    have x8 := (x5.trans x6).trans x68
    refine ⟨(rat_spec (D.ext x8) hO fn _).mono ?_⟩
    rintro e w9 ⟨rfl, x9⟩
    refine ⟨_, _, _, rfl, fun w10 n10 => ⟨rfl, (Blk.new n10).canSetN 0 2 (by simp), fun w11 s11 => ?_⟩⟩
    have k11 := s11.blk (Blk.new n10)
    have z7 := n7.size
    have z8 := s8.upd.size
    have z9 := x9.size
    have j11 := ((k8.ext x9).ext n10.ext).upd s11.upd (by intro e; have e : w6.heap.size = w9.heap.size := e; omega)
    have x11 : Ext w w11 := (x8.trans x9).trans (n10.ext.fresh s11.upd (by rintro j rfl; exact Nat.le_refl _))
    refine ⟨_, _, rfl, ⟨j11.cell 0, j11.cell 1⟩, _, _, rfl, ⟨k11.cell 0, k11.cell 1⟩, fun _ => ⟨fun h => absurd rfl h, fun _ => ⟨⟨k + 1, rfl, by omega, x11⟩, by show (301 - (((k + 1 : Nat) : Int) - 1)).toNat < (301 - ((k : Int) - 1)).toNat; omega⟩⟩, fun h => h.elim (fun h => absurd rfl h) fun h => absurd rfl h⟩
  · rintro e w6 ⟨rfl, x6⟩
    refine ⟨_, _, _, rfl, fun w7 n7 => ⟨rfl, (Blk.new n7).canSetN 0 2 (by simp), fun w8 s8 => ?_⟩⟩
    have k8 := s8.blk (Blk.new n7)
    have x68 : Ext w6 w8 := n7.ext.fresh s8.upd (by rintro j rfl; exact Nat.le_refl _)
    have x8 := (x5.trans x6).trans x68
    refine ⟨(rat_spec (D.ext x8) hO fn _).mono ?_⟩
    rintro e w9 ⟨rfl, x9⟩
    refine ⟨_, _, _, rfl, fun w10 n10 => ⟨rfl, (Blk.new n10).canSetN 0 2 (by simp), fun w11 s11 => ?_⟩⟩
    have k11 := s11.blk (Blk.new n10)
    have z7 := n7.size
    have z8 := s8.upd.size
    have z9 := x9.size
    have j11 := ((k8.ext x9).ext n10.ext).upd s11.upd (by intro e; have e : w6.heap.size = w9.heap.size := e; omega)
    have x11 : Ext w w11 := (x8.trans x9).trans (n10.ext.fresh s11.upd (by rintro j rfl; exact Nat.le_refl _))
    refine ⟨_, _, rfl, ⟨j11.cell 0, j11.cell 1⟩, _, _, rfl, ⟨k11.cell 0, k11.cell 1⟩, fun _ => ⟨by simp, x11⟩, fun h => h.elim (fun h => absurd rfl h) fun h => absurd rfl h⟩
/-! ### Bytes -/
set_option maxHeartbeats 2000000 in
theorem bytes_spec (h : Tbl w t r (T.length : Nat) (atT T)) (hO : ∀ l ∈ T, l.length ≤ 300 ∧ Okp 0 l) (hT : T.length ≤ 50) (hE : (encT T).length ≤ 1000000) :
    Calls Tryd.prog 10 #[.pointer (some ⟨t, 0, none⟩)] w fun e w' => ∃ s : Sl, e = .returned (.slice s.a s.n s.c) ∧ Own w' w.heap.size 5 1 s (bv (encT T)) ∧ Ext w w' := by
  refine vc_10 _ _ _ ?_
  simp only [eq_self, false_or, or_false, true_and, and_true, decide_eq_true_eq, decide_eq_false_iff_not, gd_st, gd_sf, exists_eq_left', exists_eq_left, Option.some.injEq, Sl.eta, Nat.reduceLeDiff, Int.reduceLE, Int.reduceLT, Int.reduceEq, Int.reduceNe, Nat.reduceMul, Nat.reduceAdd, Nat.reduceSub, Int.toNat_natCast, beq_iff_eq, bne_iff_ne, beq_eq_false_iff_ne, bne_eq_false_iff_eq, pick_and, pick_or, Bool.and_eq_true, Bool.or_eq_true, Bool.and_eq_false_iff, Bool.or_eq_false_iff, ne_eq, not_false_eq_true, Bool.not_eq_true', Bool.not_eq_false', reduceCtorEq, Nat.le_refl, Nat.zero_mul, Nat.mul_one, Nat.zero_add, Int.reduceToNat, ones, one, add_mk, Decidable.not_not, cond_true, cond_false, true_implies, false_implies, implies_true, Bool.not_true, Bool.not_false]
  have eT : IntKind.u64.wrap ((T.length : Nat) : Int) = (T.length : Nat) := wrap_u64 (by omega) (by omega)
  refine ⟨_, h.blk.cell 0, ?_⟩
  rw [eT]
  refine ⟨(put_spec ⟨none, 0, 0⟩ [] T.length w (Rd.nil _ _ _ _) (by omega) (by dsimp only; omega)).mono ?_⟩
  rintro e w1 ⟨s1, rfl, o1, x1⟩
  rw [List.nil_append] at o1
  refine ⟨s1, rfl, _, (h.ext x1).blk.cell 0, ?_⟩
  refine ⟨fun s n w' => ∃ (i : Nat) (acc : List Nat), n = (i : Nat) ∧ i ≤ T.length ∧ Own w' w.heap.size 5 1 s (bv acc) ∧ acc ++ (T.drop i).flatMap encR = encT T ∧ Ext w w', fun _ n _ => (T.length - n).toNat, ⟨0, _, rfl, Nat.zero_le _, o1, rfl, x1⟩, ?_⟩
  rintro _ s n w2 ⟨i, acc, rfl, hi, o2, ea, x2⟩
  have ei : IntKind.i64.wrap ((i : Int) + 1) = ((i + 1 : Nat) : Int) := by rw [wrap_i64 (by omega) (by omega)]; omega
  rw [ei]
  refine ⟨fun hlt => ?_, fun hge => ?_⟩
  rotate_left
  · have : i = T.length := by omega
    subst this
    rw [List.drop_length, List.flatMap_nil, List.append_nil] at ea
    rw [← ea]
    exact ⟨s, rfl, o2, x2⟩
  obtain ⟨l, hl⟩ : ∃ l, T[i]? = some l := ⟨_, List.getElem?_eq_getElem (by omega)⟩
  have hrow : rowAt T (i : Nat) = l := by unfold rowAt; rw [if_pos (by omega), Int.toNat_natCast, hl]; rfl
  obtain ⟨hll, hok⟩ := hO l (List.mem_of_getElem? hl)
  have hd : T.drop i = l :: T.drop (i + 1) := by
    obtain ⟨hk, e⟩ := List.getElem?_eq_some_iff.1 hl
    rw [List.drop_eq_getElem_cons hk, e]
  rw [hd, List.flatMap_cons] at ea
  rw [show encR l = form l.length ++ encP 0 l from rfl] at ea
  refine ⟨(tsites_spec (h.ext x2) (i : Nat) (atT_lt hO)).mono ?_⟩
  rintro e w3 ⟨s3, li, rfl, o3, hs, hm, x3⟩
  have el := sites_is hO hs hm
  unfold sitesT at el
  rw [hrow] at el
  have h3n := o3.rd.leni
  have h3l : li.length = l.length := by rw [el, List.length_map]
  have e3 : IntKind.u64.wrap ((s3.n : Nat) : Int) = (l.length : Nat) := by rw [wrap_u64 (by omega) (by omega)]; omega
  refine ⟨s3, rfl, ?_⟩
  rw [e3]
  have la := congrArg List.length ea
  simp only [List.length_append] at la
  have hsn := o2.rd.lenb
  refine ⟨(put_spec s acc l.length w3 (o2.ext x3).rd (by omega) (by omega)).mono ?_⟩
  rintro e w4 ⟨s4, rfl, o4, x4⟩
  have z2 := x2.size
  have z3 := x3.size
  have x34 := x3.trans x4
  refine ⟨s4, rfl, fun sx nx n2 w' => ∃ (j m : Nat) (ac : List Nat), nx = (m : Nat) ∧ n2 = (j : Nat) ∧ j ≤ l.length ∧ m ≤ 300 ∧ Okp m (l.drop j) ∧ Own w' w.heap.size 5 1 sx (bv ac) ∧ ac ++ (encP m (l.drop j) ++ (T.drop (i + 1)).flatMap encR) = encT T ∧ Ext w3 w', fun _ _ n2 _ => (l.length - n2).toNat, ⟨0, 0, _, rfl, rfl, Nat.zero_le _, by omega, hok, o4.mono (by omega), by rw [← ea]; simp only [List.append_assoc, List.drop_zero], x4⟩, ?_⟩
  rintro _ sx nx n2 w5 ⟨j, m, ac, rfl, rfl, hj, hm3, hokj, o5, eac, x5⟩
  have ej : IntKind.i64.wrap ((j : Int) + 1) = ((j + 1 : Nat) : Int) := by rw [wrap_i64 (by omega) (by omega)]; omega
  rw [ej]
  have x25 := x3.trans x5
  have x05 := x2.trans x25
  refine ⟨fun hlt2 => ?_, fun hge2 => ?_⟩
  rotate_left
  · have : j = l.length := by omega
    subst this
    rw [List.drop_length] at eac
    exact ⟨⟨i + 1, ac, rfl, by omega, o5, by rw [← eac]; rfl, x05⟩, by show (((T.length : Nat) : Int) - ((i + 1 : Nat) : Int)).toNat < (((T.length : Nat) : Int) - ((i : Nat) : Int)).toNat; omega⟩
  obtain ⟨x, hx⟩ : ∃ x, l[j]? = some x := ⟨_, List.getElem?_eq_getElem (by omega)⟩
  have hxm := List.mem_of_getElem? hx
  have hdx : l.drop j = x :: l.drop (j + 1) := by
    obtain ⟨hk, e⟩ := List.getElem?_eq_some_iff.1 hx
    rw [List.drop_eq_getElem_cons hk, e]
  rw [hdx] at hokj eac
  obtain ⟨g1, g2, g3, g4, g5⟩ := hokj
  unfold encP at eac
  obtain ⟨p3, hp3, hc3⟩ := (o3.ext x5).rd.2 (by omega)
  have hcell := hc3 j (.int .i64 ((x.at_ : Nat) : Int)) (by rw [el]; unfold iv; rw [List.getElem?_map, List.getElem?_map, hx]; rfl)
  have T5 := h.ext x05
  have hat := atT_row hO (fn := ((i : Nat) : Int)) (x := x) (by rw [hrow]; exact hxm)
  have hlook := T5.map.lookF (i : Nat) ((x.at_ : Nat) : Int)
  rw [hat] at hlook
  have ex : IntKind.u64.wrap (IntKind.i64.wrap (((x.at_ : Nat) : Int) - ((m : Nat) : Int))) = ((x.at_ - m : Nat) : Int) := by rw [wrap_i64 (by omega) (by omega), wrap_u64 (by omega) (by omega)]; omega
  have ex1 : IntKind.i64.wrap (((x.at_ : Nat) : Int) + 1) = ((x.at_ + 1 : Nat) : Int) := by rw [wrap_i64 (by omega) (by omega)]; omega
  simp only [Int.toNat_natCast]
  refine ⟨by omega, by omega, p3, hp3, _, hcell, ?_⟩
  rw [ex, ex1]
  have lac := congrArg List.length eac
  simp only [List.length_append] at lac
  have h5n := o5.rd.lenb
  refine ⟨some r, T5.blk.cell 1, (by show 2 ≤ 2; decide), _, _, w5, hlook, fun w6 n6 => ⟨rfl, (Blk.new n6).canSetN 0 2 (by simp), fun w7 s7 => ?_⟩⟩
  have k7 : Blk w7 w5.heap.size 44 [.int .u64 ((x.loc : Nat) : Int), .int .u64 ((x.stk : Nat) : Int)] := s7.blk (Blk.new n6)
  have x57 : Ext w5 w7 := n6.ext.fresh s7.upd (by rintro q rfl; exact Nat.le_refl _)
  have o7 := o5.ext x57
  have z5 := x5.size
  have z7 := x57.size
  refine ⟨(put_spec sx ac (x.at_ - m) w7 o7.rd (by omega) (by omega)).mono ?_⟩
  rintro e w8 ⟨s8, rfl, o8, x8⟩
  have h8n := o8.rd.lenb
  rw [List.length_append] at h8n
  have k8 := k7.ext x8
  refine ⟨s8, rfl, _, k8.cell 0, ⟨(put_spec s8 _ x.loc w8 o8.rd (by omega) (by omega)).mono ?_⟩⟩
  rintro e w9 ⟨s9, rfl, o9, x9⟩
  have h9n := o9.rd.lenb
  simp only [List.length_append] at h9n
  have k9 := k8.ext x9
  refine ⟨s9, rfl, _, k9.cell 1, ⟨(put_spec s9 _ x.stk w9 o9.rd (by omega) (by omega)).mono ?_⟩⟩
  rintro e w10 ⟨s10, rfl, o10, x10⟩
  have z8 := x8.size
  have z9 := x9.size
  refine ⟨s10, rfl, ⟨j + 1, x.at_ + 1, _, rfl, rfl, by omega, by omega, g5, o10.mono (by omega), by rw [← eac]; simp only [List.append_assoc], (((x5.trans x57).trans x8).trans x9).trans x10⟩, by omega⟩
end
end Go.Proofs.YtihnjjmbcbfheaaDoor.V
