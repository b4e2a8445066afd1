/-
  The document's rows, objects, Seen.
-/
import Derived.Test.YtepmokkhcombmaaDoorSv7
namespace Go.Proofs.YtepmokkhcombmaaDoor.V
open Go Go.RowKit
set_option linter.unusedVariables false
set_option linter.unusedSimpArgs false
set_option linter.unusedSectionVars false
set_option maxRecDepth 100000

theorem own_kd {w w' : World} {B : Nat} {s : Sl} {e z : Nat} {xs : List Value} (h : Own w B e z s xs) (k : Kd w w') (h0 : e ≠ 5) (h1 : e ≠ 28) (h2 : e ≠ 58) : Own w' B e z s xs := by
  cases ha : s.a with
  | none =>
    obtain ⟨e1, e2⟩ := h.none_ ha
    subst e2; rw [e1]; exact Own.nil _ _ _ _
  | some p =>
    obtain ⟨g, cs, hg, hB, hb, hn, hc, hl, ht⟩ := h.blk (by rw [ha]; simp)
    rw [← ht]
    exact Own.of_blk (k _ _ _ hb h0 h1 h2) hB hg hn hc hl
section
variable {w w' : World} {B g : Nat} {s : Sl} {m : List Nat} {txt : List UInt8} {K : World → Prop}
set_option maxHeartbeats 1000000 in
theorem drows_spec {R : List Rp} {rs : Sl} (h : MS w B g m) (hR : RwK (fun w' => Upd (fun k => B ≤ k) w w') rs R) (okr : Okr R) (hbR : rowsB R ≤ 10000000000) :
    Calls Tryd.prog 17 #[.pointer (some ⟨g, 0, none⟩), .slice rs.a rs.n rs.c] w fun e w' => ∃ s' : Sl, e = .returned (.slice s'.a s'.n s'.c) ∧ MS w' B g (rowsT m R).2 ∧ Own w' B 5 1 s' (tv (rowsT m R).1) ∧ FD B w w' := by
  refine vc_17 _ _ _ _ ?_
  have hsn := hR.n (w := w) (Upd.refl _ _)
  have hrl := rowsB_len R
  have z0 := h.size
  simp only [eq_self, false_or, or_false, true_and, and_true, decide_eq_true_eq, decide_eq_false_iff_not, gd_st, gd_sf, exists_eq_left', exists_eq_left, Option.some.injEq, Sl.eta, Nat.reduceLeDiff, Int.reduceLE, Int.reduceLT, Int.reduceEq, Int.reduceNe, Nat.reduceMul, Nat.reduceAdd, Nat.reduceSub, Int.toNat_natCast, beq_iff_eq, bne_iff_ne, beq_eq_false_iff_ne, bne_eq_false_iff_eq, pick_and, pick_or, Bool.and_eq_true, Bool.or_eq_true, Bool.and_eq_false_iff, Bool.or_eq_false_iff, ne_eq, not_false_eq_true, Bool.not_eq_true', Bool.not_eq_false', reduceCtorEq, Nat.le_refl, Nat.zero_mul, Nat.mul_one, Nat.zero_add, Int.reduceToNat, ones, one, add_mk, Decidable.not_not, cond_true, cond_false, true_implies, false_implies, implies_true, Bool.not_true, Bool.not_false]
  intro w1 n1
  have o1 : Own w1 B 5 1 ⟨some ⟨w.heap.size, 0, none⟩, 0, 0⟩ (tv []) := Own.lit (z := 1) (n := 0) (cs := []) n1 z0 rfl (by decide)
  refine ⟨fun s n w' => ∃ (k : Nat) (t' : List UInt8) (m' : List Nat), n = (k : Nat) ∧ k ≤ R.length ∧ MS w' B g m' ∧ Own w' B 5 1 s (tv t') ∧ FD B w w' ∧ t' ++ (rowsT m' (R.drop k)).1 = (rowsT m R).1 ∧ (rowsT m' (R.drop k)).2 = (rowsT m R).2 ∧ t'.length + rowsB (R.drop k) ≤ 10000000000,
    fun _ n _ => (R.length - n).toNat, ⟨0, [], m, rfl, Nat.zero_le _, h.ext n1.ext, o1, FD.ext n1.ext, rfl, rfl, by rw [List.drop_zero]; simpa using hbR⟩, ?_⟩
  rintro _ s1 n w3 ⟨k, t', m', rfl, hk, h3, o3, f3, e1, e2, hb⟩
  have ek : IntKind.i64.wrap ((k : Int) + 1) = ((k + 1 : Nat) : Int) := by rw [wrap_i64 (by omega) (by omega)]; omega
  rw [ek]
  refine ⟨fun hlt => ?_, fun hge => ?_⟩
  rotate_left
  · have : k = R.length := by omega
    subst this
    rw [List.drop_length] at e1 e2
    simp only [show rowsT m' [] = ([], m') from rfl, List.append_nil] at e1 e2
    rw [← e1, ← e2]
    exact ⟨s1, rfl, h3, o3, f3⟩
  obtain ⟨t, ht⟩ : ∃ t, R[k]? = some t := ⟨_, List.getElem?_eq_getElem (by omega)⟩
  obtain ⟨p, l1, l2, hp, hc⟩ := hR.at_ f3.u ht
  obtain ⟨c0, c1, c2, c3, _, _⟩ := hc w3 f3.u
  obtain ⟨ol, os, of_, op⟩ := okr t (List.mem_of_getElem? ht)
  have hdc := drop_cons ht
  rw [hdc] at e1 e2 hb
  have hrB : rowsB (t :: R.drop (k + 1)) = rowB t + rowsB (R.drop (k + 1)) := by unfold rowsB; rw [List.map_cons, List.sum_cons]
  rw [hrB] at hb
  unfold rowB at hb
  rw [rowsT] at e1 e2
  dsimp only at e1 e2
  obtain ⟨gd4, hl1⟩ := cellsT_gd h3.gd ol
  obtain ⟨gd5, hl2⟩ := cellsT_gd gd4 os
  have a1 := itoa_len of_.1 of_.2
  have a2 := itoa_len op.1 op.2
  simp only [Int.toNat_natCast]
  refine ⟨by omega, by omega, p, hp, _, _, l1, l2, rfl, ⟨c0, c1, c2, c3⟩, fun w4 n4 => ⟨rfl, (Blk.new n4).canSetN 0 4 (by simp), fun w5 s5 w6 q6 => ?_⟩⟩
  have k5 : Blk w5 w3.heap.size 36 [.int .i64 t.fn, .int .i64 t.pl, .slice l1.a l1.n l1.c, .slice l2.a l2.n l2.c] := s5.blk (Blk.new n4)
  have x6 : Ext w3 w6 := (n4.ext.fresh s5.upd (by rintro i rfl; exact Nat.le_refl _)).trans q6.ext
  have k6 := k5.ext q6.ext
  refine ⟨fun _ => False, _, fun w' u => (k6.ext u).cell 0, _, fun w' u => (k6.ext u).cell 1, ⟨(digits_spec of_.1 of_.2).mono ?_⟩⟩
  rintro e w7 ⟨rfl, x7⟩
  have ez : (⟨#[46]⟩ : ByteArray) = mkB [46] := rfl
  rw [ez]
  refine ⟨_, rfl, x7, by rw [mkB_size, mkB_size]; simp; omega, ⟨(digits_spec op.1 op.2).mono ?_⟩⟩
  rintro e w8 ⟨rfl, x8⟩
  have x38 := (x6.trans x7).trans x8
  have k8 := (k6.ext x7).ext x8
  have f38 : FD B w w8 := f3.trans (FD.ext x38)
  obtain ⟨s9, w9, hr9, h9, o9, f9⟩ := app_str (h3.ext x38) (o3.ext x38) (Lib.itoa t.fn ++ [46] ++ Lib.itoa t.pl) (by simp only [List.length_append, List.length_cons, List.length_nil]; omega)
  have k9 := f9.k _ _ _ k8 (by decide) (by decide) (by decide)
  have f09 := f38.trans f9
  refine ⟨_, rfl, x8, by rw [mkB_append, mkB_size, mkB_size]; simp; omega, s9, w9, by rw [mkB_append, mkB_append]; exact hr9, l1, k9.cell 2, ⟨(dcells_spec h9 o9 (fun w' u => (hc w' (f09.trans u).u).2.2.2.2.1) ol (by simp only [List.length_append, List.length_cons, List.length_nil]; omega)).mono ?_⟩⟩
  rintro e w10 ⟨s10, rfl, h10, o10, f10⟩
  have k10 := f10.k _ _ _ k9 (by decide) (by decide) (by decide)
  obtain ⟨s11, w11, hr11, h11, o11, f11⟩ := app_str h10 o10 [32, 124] (by simp only [List.length_append, List.length_cons, List.length_nil]; omega)
  have k11 := f11.k _ _ _ k10 (by decide) (by decide) (by decide)
  have f011 := (f09.trans f10).trans f11
  refine ⟨s10, rfl, s11, w11, hr11, l2, k11.cell 3, ⟨(dcells_spec h11 o11 (fun w' u => (hc w' (f011.trans u).u).2.2.2.2.2) os (by simp only [List.length_append, List.length_cons, List.length_nil]; omega)).mono ?_⟩⟩
  rintro e w12 ⟨s12, rfl, h12, o12, f12⟩
  refine ⟨s12, rfl, fun w13 n13 => ?_⟩
  obtain ⟨s14, w14, hr14, h14, o14, f14⟩ := app_byte h12 o12 10 rfl (by simp only [List.length_append, List.length_cons, List.length_nil]; omega) n13
  refine ⟨s14, w14, hr14, ⟨k + 1, _, _, rfl, by omega, h14, o14, (f011.trans f12).trans f14, ?_, e2, ?_⟩, by omega⟩
  · rw [← e1]
    unfold rowT
    simp only [List.append_assoc, List.cons_append, List.nil_append]
  · simp only [List.length_append, List.length_cons, List.length_nil]; omega
theorem dobj_spec {x : Ob} {sl : Sl} {n : Nat} (h : MS w B g m) (o : Own w B 5 1 s (tv txt)) (hn : n ≤ 65536) (hL : ∀ w', FD B w w' → Rd w' 3 sl (clV x.cells)) (hc : Okc x.cells) (hl : txt.length + obB x ≤ 60000000000000) :
    Calls Tryd.prog 18 #[.pointer (some ⟨g, 0, none⟩), .slice s.a s.n s.c, .int .i64 (n : Nat), .agg #[.string (mkB x.lab), .slice sl.a sl.n sl.c]] w fun e w' => ∃ s' : Sl, e = .returned (.slice s'.a s'.n s'.c) ∧ MS w' B g (objT m n x).2 ∧ Own w' B 5 1 s' (tv (txt ++ (objT m n x).1)) ∧ FD B w w' := by
  refine vc_18 _ _ _ _ _ _ _ ?_
  unfold obB at hl
  simp only [eq_self, false_or, or_false, true_and, and_true, decide_eq_true_eq, decide_eq_false_iff_not, gd_st, gd_sf, exists_eq_left', exists_eq_left, Option.some.injEq, Sl.eta, Nat.reduceLeDiff, Int.reduceLE, Int.reduceLT, Int.reduceEq, Int.reduceNe, Nat.reduceMul, Nat.reduceAdd, Nat.reduceSub, Int.toNat_natCast, beq_iff_eq, bne_iff_ne, beq_eq_false_iff_ne, bne_eq_false_iff_eq, pick_and, pick_or, Bool.and_eq_true, Bool.or_eq_true, Bool.and_eq_false_iff, Bool.or_eq_false_iff, ne_eq, not_false_eq_true, Bool.not_eq_true', Bool.not_eq_false', reduceCtorEq, Nat.le_refl, Nat.zero_mul, Nat.mul_one, Nat.zero_add, Int.reduceToNat, ones, one, add_mk, Decidable.not_not, cond_true, cond_false, true_implies, false_implies, implies_true, Bool.not_true, Bool.not_false]
  intro w1 n1 w2 q2
  have k2 : Blk w2 w.heap.size 51 [.string (mkB x.lab), .slice sl.a sl.n sl.c] := (Blk.new n1).ext q2.ext
  have x2 := n1.ext.trans q2.ext
  have a1 := itoa_len (n := ((n : Nat) : Int)) (by omega) (by omega)
  obtain ⟨gd1, hl1⟩ := cellsT_gd h.gd hc
  refine ⟨fun _ => False, _, fun w' u => (k2.ext u).cell 0, ⟨(digits_spec (by omega) (by omega)).mono ?_⟩⟩
  rintro e w3 ⟨rfl, x3⟩
  have e35 : (⟨#[35]⟩ : ByteArray) = mkB [35] := rfl
  have e32 : (⟨#[32]⟩ : ByteArray) = mkB [32] := rfl
  have e58 : (⟨#[58]⟩ : ByteArray) = mkB [58] := rfl
  rw [e35, e32, e58]
  have x03 := x2.trans x3
  have k3 := k2.ext x3
  obtain ⟨s4, w4, hr4, h4, o4, f4⟩ := app_str (h.ext x03) (o.ext x03) ([35] ++ Lib.itoa (n : Nat) ++ [32] ++ x.lab ++ [58]) (by simp only [List.length_append, List.length_cons, List.length_nil]; omega)
  have k4 := f4.k _ _ _ k3 (by decide) (by decide) (by decide)
  have f04 := (FD.ext x03).trans f4
  refine ⟨_, rfl, x3, by simp only [mkB_append, mkB_size, List.length_append, List.length_cons, List.length_nil]; omega, by simp only [mkB_append, mkB_size, List.length_append, List.length_cons, List.length_nil]; omega, by simp only [mkB_append, mkB_size, List.length_append, List.length_cons, List.length_nil]; omega, by simp only [mkB_append, mkB_size, List.length_append, List.length_cons, List.length_nil]; omega, s4, w4, by simp only [mkB_append]; exact hr4, sl, k4.cell 1, ⟨(dcells_spec h4 o4 (fun w' u => hL w' (f04.trans u)) hc (by simp only [List.length_append, List.length_cons, List.length_nil]; omega)).mono ?_⟩⟩
  rintro e w5 ⟨s5, rfl, h5, o5, f5⟩
  refine ⟨s5, rfl, fun w6 n6 => ?_⟩
  obtain ⟨s7, w7, hr7, h7, o7, f7⟩ := app_byte h5 o5 10 rfl (by simp only [List.length_append, List.length_cons, List.length_nil]; omega) n6
  refine ⟨s7, w7, hr7, s7, rfl, h7, ?_, (f04.trans f5).trans f7⟩
  have : txt ++ (objT m n x).1 = txt ++ ([35] ++ Lib.itoa (n : Nat) ++ [32] ++ x.lab ++ [58]) ++ (cellsT m x.cells).1 ++ [10] := by
    unfold objT
    simp only [List.append_assoc, List.cons_append, List.nil_append]
  rw [this]
  exact o7
end
set_option maxHeartbeats 1000000 in
theorem seen_spec {w : World} {rs ths : Sl} {R : List Rp} {L : List Th} (hR : RwK (Ext w) rs R) (okr : Okr R) (hL : ThK (Ext w) ths L) (hm : L.length ≤ 1000000000000) (okt : ∀ id, Okc (findT L id).cells) (hbO : ∀ id, obB (findT L id) ≤ 100000000) (hbR : rowsB R ≤ 10000000000) :
    Calls Tryd.prog 9 #[.slice rs.a rs.n rs.c, .slice ths.a ths.n ths.c] w fun e w' => ∃ ls : Sl, e = .returned (.tuple #[.string (mkB (seenT (findT L) R).1), .slice ls.a ls.n ls.c]) ∧ Own w' w.heap.size 28 1 ls (uv (seenT (findT L) R).2) ∧ (seenT (findT L) R).2.length ≤ 65536 ∧ Ext w w' := by
  refine vc_9 _ _ _ _ ?_
  simp only [eq_self, false_or, or_false, true_and, and_true, decide_eq_true_eq, decide_eq_false_iff_not, gd_st, gd_sf, exists_eq_left', exists_eq_left, Option.some.injEq, Sl.eta, Nat.reduceLeDiff, Int.reduceLE, Int.reduceLT, Int.reduceEq, Int.reduceNe, Nat.reduceMul, Nat.reduceAdd, Nat.reduceSub, Int.toNat_natCast, beq_iff_eq, bne_iff_ne, beq_eq_false_iff_ne, bne_eq_false_iff_eq, pick_and, pick_or, Bool.and_eq_true, Bool.or_eq_true, Bool.and_eq_false_iff, Bool.or_eq_false_iff, ne_eq, not_false_eq_true, Bool.not_eq_true', Bool.not_eq_false', reduceCtorEq, Nat.le_refl, Nat.zero_mul, Nat.mul_one, Nat.zero_add, Int.reduceToNat, ones, one, add_mk, Decidable.not_not, cond_true, cond_false, true_implies, false_implies, implies_true, Bool.not_true, Bool.not_false]
  intro w1 n1
  have z1 := n1.size
  have h1 : MS w1 w.heap.size w.heap.size [] := ⟨⟨none, 0, 0⟩, Blk.new n1, Own.nil _ _ _ _, Nat.le_refl _, Gd.nil⟩
  have fx : ∀ {w1 w2 : World}, Ext w w1 → FD w.heap.size w1 w2 → Ext w w2 := fun {w1 w2} x f => x.fresh f.u fun i hi => hi
  refine ⟨(drows_spec h1 (hR.mono fun w' u => n1.ext.fresh u fun i hi => hi) okr hbR).mono ?_⟩
  rintro e w2 ⟨s2, rfl, h2, o2, f2⟩
  have hseen : seenT (findT L) R = ((rowsT [] R).1 ++ (objsT (findT L) 65536 0 (rowsT [] R).2).1, (objsT (findT L) 65536 0 (rowsT [] R).2).2) := rfl
  have hlen2 := (rowsT_gd Gd.nil okr).2
  refine ⟨s2, rfl, fun s n w' => ∃ (i : Nat) (t' : List UInt8) (m' : List Nat), n = (i : Nat) ∧ i ≤ m'.length ∧ MS w' w.heap.size w.heap.size m' ∧ Own w' w.heap.size 5 1 s (tv t') ∧ Ext w w' ∧ t' ++ (objsT (findT L) (65536 - i) i m').1 = (seenT (findT L) R).1 ∧ (objsT (findT L) (65536 - i) i m').2 = (seenT (findT L) R).2 ∧ t'.length ≤ 10000000000 + i * 100000000,
    fun _ n _ => (65536 - n).toNat, ⟨0, _, _, rfl, Nat.zero_le _, h2, o2, fx n1.ext f2, by rw [hseen], by rw [hseen], by omega⟩, ?_⟩
  clear hseen
  rintro _ s n w3 ⟨i, t', m', rfl, hi, ⟨ls3, P3⟩, o3, x3, e1, e2, hb⟩
  have hm3 := P3.mn
  have hml3 := P3.gd.len
  have ei : IntKind.i64.wrap ((i : Int) + 1) = ((i + 1 : Nat) : Int) := by rw [wrap_i64 (by omega) (by omega)]; omega
  rw [ei]
  refine ⟨ls3, P3.hg.cell 0, fun hlt => ?_, fun hge => ?_⟩
  rotate_left
  · rw [objsT_end (by omega)] at e1 e2
    dsimp only at e1 e2
    rw [List.append_nil] at e1
    rw [← e1, ← e2]
    exact ⟨mkB t', fun w' q => (o3.ext q.ext).rd.str, ls3, P3.hg.cell 0, fun w' q => ⟨ls3, rfl, P3.hm.ext q.ext, hml3, x3.trans q.ext⟩⟩
  obtain ⟨id, hid⟩ : ∃ id, m'[i]? = some id := ⟨_, List.getElem?_eq_getElem (by omega)⟩
  obtain ⟨pm, hpm, hcm⟩ := P3.hm.rd.2 (by omega)
  have hidc := hcm i (.int .u64 (id : Nat)) (by unfold uv; rw [List.getElem?_map, hid]; rfl)
  rw [show 65536 - i = (65536 - (i + 1)) + 1 by omega, objsT_step hid] at e1 e2
  dsimp only at e1 e2
  simp only [Int.toNat_natCast]
  refine ⟨ls3, P3.hg.cell 0, by omega, by omega, pm, hpm, _, hidc, ⟨(find_spec (K := Ext w) hL (fun w' u => x3.trans u) hm).mono ?_⟩⟩
  rintro e w4 ⟨sl, rfl, hcl, x4⟩
  have hbx := hbO id
  have okx := okt id
  have x04 := x3.trans x4
  refine ⟨_, sl, rfl, ⟨(dobj_spec (x := findT L id) (n := i + 1) ⟨ls3, P3.ext x4⟩ (o3.ext x4) (by omega) (fun w' u => hcl w' (fx x04 u)) okx (by omega)).mono ?_⟩⟩
  rintro e w5 ⟨s5, rfl, h5, o5, f5⟩
  have hpre := cellsT_pre (findT L id).cells m'
  have hob := (objT_gd P3.gd (show i + 1 ≤ 65536 by omega) okx).2
  refine ⟨s5, rfl, ⟨i + 1, _, _, rfl, ?_, h5, o5, fx x04 f5, ?_, e2, ?_⟩, by omega⟩
  · have h1 : m'.length ≤ (objT m' (i + 1) (findT L id)).2.length := hpre.length_le
    omega
  · rw [← e1, List.append_assoc]
  · rw [List.length_append]; omega
end Go.Proofs.YtepmokkhcombmaaDoor.V
