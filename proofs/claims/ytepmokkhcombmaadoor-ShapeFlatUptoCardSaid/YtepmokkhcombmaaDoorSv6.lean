/-
  View, whole: over the function handed in.
-/
import Derived.Test.YtepmokkhcombmaaDoorSv5

namespace Go.Proofs.YtepmokkhcombmaaDoor.V
open Go Go.RowKit
set_option linter.unusedVariables false
set_option linter.unusedSimpArgs false
set_option linter.unusedSectionVars false
set_option maxRecDepth 100000

theorem Own.kt {w w' : World} {B e z : Nat} {s : Sl} {xs : List Value} (h : Own w B e z s xs) (k : Kt w w') (h1 : e ≠ 5) (h2 : e ≠ 28) (h3 : e ≠ 65) (h4 : e ≠ 25) : Own w' B e z s xs := by
  cases ha : s.a with
  | none =>
    obtain ⟨e1, e2⟩ := h.none_ ha
    subst e2; rw [e1]; exact Own.nil _ _ _ _
  | some p =>
    obtain ⟨g, cs, hg, hB, hb, hn, hc, hl, ht⟩ := h.blk (by rw [ha]; simp)
    rw [← ht]
    exact Own.of_blk (k _ _ _ hb h1 h2 h3 h4) hB hg hn hc hl
theorem ST.setO {w w' : World} {B g r ov : Nat} {o : Option Nat} {txt : List UInt8} {m A : List Nat} {cs l : List Value} (h : ST w B g r o txt m A) (kO : Blk w ov 48 cs) (s : SetW w ⟨ov, 0, none⟩ l w') : ST w' B g r o txt m A := by
  obtain ⟨ts, ms, qs, P⟩ := h
  have u : Upd (fun k => k = ov) w w' := s.upd
  have nb : ∀ {k T : Nat} {cs : List Value}, Blk w k T cs → T ≠ 48 → Blk w' k T cs := fun hb hT => hb.upd u (hb.ne kO hT)
  have no : ∀ {e z : Nat} {s : Sl} {xs : List Value} {B : Nat}, Own w B e z s xs → e ≠ 48 → Own w' B e z s xs := fun ho he => ho.upd u (own_blk_ne ho kO he)
  exact ⟨ts, ms, qs, nb P.hg (by decide), no P.ht (by decide), no P.hm (by decide), P.hap, fun x hx => ⟨nb (P.hq x hx).1 (by decide), no (P.hq x hx).2 (by decide)⟩, P.hr.upd u (P.hr.ne kO), P.hlo, P.hgd⟩
theorem rowsB_len (l : List Rp) : l.length ≤ rowsB l := by
  induction l with
  | nil => exact Nat.zero_le _
  | cons a l ih =>
    have h1 : rowsB (a :: l) = rowB a + rowsB l := by unfold rowsB; rw [List.map_cons, List.sum_cons]
    have h2 : 64 ≤ rowB a := by unfold rowB; omega
    simp only [List.length_cons]; omega
theorem cellT_pre (m : List Nat) (c : Cl) : m <+: (cellT m c).2 := by
  unfold cellT
  split
  · exact List.prefix_rfl
  · split
    · exact List.prefix_rfl
    · dsimp only
      unfold numT
      split
      · exact List.prefix_rfl
      · split
        · exact List.prefix_rfl
        · exact List.prefix_append _ _
theorem cellsT_pre : ∀ (l : List Cl) (m : List Nat), m <+: (cellsT m l).2
  | [], m => List.prefix_rfl
  | c :: l, m => by rw [cellsT]; exact (cellT_pre m c).trans (cellsT_pre l _)
theorem take_pre {m m' : List Nat} (h : m <+: m') {i : Nat} (hi : i ≤ m.length) : m.take i = m'.take i := by
  obtain ⟨x, rfl⟩ := h
  rw [List.take_append_of_le_length hi]
set_option maxHeartbeats 4000000 in
theorem view_spec {w : World} {a bb th b : Nat} {s ths : Sl} {R : List Rp} {L : List Th} (hR : RwK (UA a w.heap.size w) s R) (okr : Okr R) (hT : ∀ w', UA a w.heap.size w w' → TB w.heap.size w')
    (ka : Blk w a 25 [.slice none 0 0]) (kb : Blk w bb 28 [.int .u64 (b : Nat)]) (kt : Blk w th 23 [.slice ths.a ths.n ths.c]) (hbb : bb ≠ a) (hb64 : b < 18446744073709551616)
    (hL : ThK (UA a w.heap.size w) ths L) (hm : L.length ≤ 1000000000000) (hml : ∀ t ∈ L, t.cells.length ≤ 1000000000000) (okt : ∀ id, id < 18446744073709551616 → Okc (ofT b L id).cells) (hbO : ∀ id, obB (ofT b L id) ≤ 100000000) (hbR : rowsB R ≤ 10000000000) :
    Calls Tryd.prog 10 #[.slice s.a s.n s.c, .func (.func 14) #[] #[.pointer (some ⟨a, 0, none⟩), .pointer (some ⟨bb, 0, none⟩), .pointer (some ⟨th, 0, none⟩)]] w fun e w' =>
      e = .returned (.string (mkB (seenT (ofT b L) R).1)) ∧ (∃ qs : Sl, Blk w' a 25 [.slice qs.a qs.n qs.c] ∧ Own w' w.heap.size 28 1 qs (uv (seenT (ofT b L) R).2)) ∧ UA a w.heap.size w w' := by
  refine vc_10 _ _ _ _ _ _ ?_
  have hsn := hR.n (w := w) (Upd.refl _ _)
  have hrl := rowsB_len R
  have hab := ka.lt
  have mono : ∀ {w1 w2 : World}, UA a w.heap.size w w1 → FR w.heap.size w1 w2 → UA a w.heap.size w w2 := fun {w1 w2} h f => Upd.trans h f.u fun i hi hn => ⟨hn, fun hh => hn (.inr hh)⟩
  simp only [eq_self, false_or, or_false, true_and, and_true, decide_eq_true_eq, decide_eq_false_iff_not, gd_st, gd_sf, exists_eq_left', exists_eq_left, Option.some.injEq, Sl.eta, Nat.reduceLeDiff, Int.reduceLE, Int.reduceLT, Int.reduceEq, Int.reduceNe, Nat.reduceMul, Nat.reduceAdd, Nat.reduceSub, Int.toNat_natCast, beq_iff_eq, bne_iff_ne, beq_eq_false_iff_ne, bne_eq_false_iff_eq, pick_and, pick_or, Bool.and_eq_true, Bool.or_eq_true, Bool.and_eq_false_iff, Bool.or_eq_false_iff, ne_eq, not_false_eq_true, Bool.not_eq_true', Bool.not_eq_false', reduceCtorEq, Nat.le_refl, Nat.zero_mul, Nat.mul_one, Nat.zero_add, Int.reduceToNat, ones, one, add_mk, Decidable.not_not, cond_true, cond_false, true_implies, false_implies, implies_true, Bool.not_true, Bool.not_false]
  obtain ⟨w0, hmk, n0⟩ := run_makeMap (P := Tryd.prog) (w := w) (mty := 63)
  have z0 := n0.size
  refine ⟨some w.heap.size, w0, hmk, fun w1 n1 => ?_⟩
  have x1 : Ext w w1 := n0.ext.trans n1.ext
  have z1 := n1.size
  have h1 : ST w1 w.heap.size w0.heap.size w.heap.size (some a) [] [] [] := by
    refine ⟨⟨none, 0, 0⟩, ⟨none, 0, 0⟩, ⟨none, 0, 0⟩, Blk.new n1, Own.nil _ _ _ _, Own.nil _ _ _ _, fun p q hp => (by cases hp), fun x hx => ?_, ?_, ⟨by omega, Nat.le_refl _⟩, Gd.nil⟩
    · injection hx with hx; subst hx
      exact ⟨ka.ext x1, Own.nil _ _ _ _⟩
    · rw [← nF_nil]
      exact (MapI.new (k := .u64) n0).ext n1.ext
  have u1 : UA a w.heap.size w w1 := Upd.mono x1 fun _ _ _ => not_false
  refine ⟨fun n w' => ∃ (k : Nat) (t' : List UInt8) (m' : List Nat), n = (k : Nat) ∧ k ≤ R.length ∧ ST w' w.heap.size w0.heap.size w.heap.size (some a) t' m' [] ∧ UA a w.heap.size w w' ∧ t' ++ (rowsT m' (R.drop k)).1 = (rowsT [] R).1 ∧ (rowsT m' (R.drop k)).2 = (rowsT [] R).2 ∧ t'.length + rowsB (R.drop k) ≤ 10000000000,
    fun n _ => (R.length - n).toNat, ⟨0, [], [], rfl, Nat.zero_le _, h1, u1, rfl, rfl, by rw [List.drop_zero]; simpa using hbR⟩, ?_⟩
  rintro _ n w3 ⟨k, t', m', rfl, hk, h3, u3, e1, e2, hb⟩
  have ek : IntKind.i64.wrap ((k : Int) + 1) = ((k + 1 : Nat) : Int) := by rw [wrap_i64 (by omega) (by omega)]; omega
  rw [ek]
  refine ⟨fun hlt => ?_, fun hge => ?_⟩
  · obtain ⟨t, ht⟩ : ∃ t, R[k]? = some t := ⟨_, List.getElem?_eq_getElem (by omega)⟩
    obtain ⟨p, s1, s2, hp, hc⟩ := hR.at_ u3 ht
    obtain ⟨c0, c1, c2, c3, _, _⟩ := hc w3 u3
    obtain ⟨ol, os, of_, op⟩ := okr t (List.mem_of_getElem? ht)
    have hdc := drop_cons ht
    rw [hdc] at e1 e2 hb
    have hrB : rowsB (t :: R.drop (k + 1)) = rowB t + rowsB (R.drop (k + 1)) := by unfold rowsB; rw [List.map_cons, List.sum_cons]
    rw [hrB] at hb
    unfold rowB at hb
    rw [rowsT] at e1 e2
    dsimp only at e1 e2
    have gd3 : Gd m' := by obtain ⟨_, _, _, P⟩ := h3; exact P.hgd
    obtain ⟨gd4, hl1⟩ := cellsT_gd gd3 ol
    obtain ⟨gd5, hl2⟩ := cellsT_gd gd4 os
    have a1 := itoa_len of_.1 of_.2
    have a2 := itoa_len op.1 op.2
    simp only [Int.toNat_natCast]
    refine ⟨by omega, by omega, p, hp, _, _, s1, s2, rfl, ⟨c0, c1, c2, c3⟩, fun w4 n4 => ⟨rfl, (Blk.new n4).canSetN 0 4 (by simp), fun w5 s5 w6 q6 => ?_⟩⟩
    have k5 : Blk w5 w3.heap.size 67 [.int .i64 t.fn, .int .i64 t.pl, .slice s1.a s1.n s1.c, .slice s2.a s2.n s2.c] := s5.blk (Blk.new n4)
    have x6 : Ext w3 w6 := (n4.ext.fresh s5.upd (by rintro i rfl; exact Nat.le_refl _)).trans q6.ext
    have k6 := k5.ext q6.ext
    obtain ⟨ts6, ms6, qs6, P6⟩ := h3.ext x6
    have f6 : FR w.heap.size w3 w6 := FR.ext x6
    refine ⟨fun k => w.heap.size ≤ k ∧ BytB w6 k, ts6, fun w' u => (SP.numStays 0 P6.hg (by decide) u).cell 0, _, fun w' u => (SP.numStays 0 k6 (by decide) u).cell 0, ⟨(P6.num of_.1 of_.2 (by omega) (hT w6 (mono u3 f6))).mono ?_⟩⟩
    rintro e w7 ⟨s7, rfl, u7, c7, k7⟩
    refine ⟨s7, rfl, u7, c7, fun w8 s8 => ?_⟩
    obtain ⟨⟨ts8, ms8, qs8, P8⟩, f8⟩ := k7 w8 s8
    have k8 := f8.k _ _ _ k6 (by decide) (by decide) (by decide) (by decide)
    refine ⟨ts8, P8.hg.cell 0, fun w9 n9 => ?_⟩
    obtain ⟨s10, w10, hr10, c10, k10⟩ := P8.byte 46 rfl (by rw [List.length_append]; omega) n9
    refine ⟨s10, w10, hr10, c10, fun w11 s11 w12 q12 => ?_⟩
    obtain ⟨⟨ts12, ms12, qs12, P11⟩, f11⟩ := k10 w11 s11
    have P12 := P11.ext q12.ext
    have k12 := (f11.k _ _ _ k8 (by decide) (by decide) (by decide) (by decide)).ext q12.ext
    have f12 : FR w.heap.size w3 w12 := (f6.trans f8).trans (f11.trans (FR.ext q12.ext))
    refine ⟨fun k => w.heap.size ≤ k ∧ BytB w12 k, ts12, fun w' u => (SP.numStays 0 P12.hg (by decide) u).cell 0, _, fun w' u => (SP.numStays 0 k12 (by decide) u).cell 1, ⟨(P12.num op.1 op.2 (by simp only [List.length_append, List.length_cons, List.length_nil]; omega) (hT w12 (mono u3 f12))).mono ?_⟩⟩
    rintro e w13 ⟨s13, rfl, u13, c13, k13⟩
    refine ⟨s13, rfl, u13, c13, fun w14 s14 => ?_⟩
    obtain ⟨p14, f14⟩ := k13 w14 s14
    have k14 := f14.k _ _ _ k12 (by decide) (by decide) (by decide) (by decide)
    have g14 := f12.trans f14
    have v14 := mono u3 g14
    refine ⟨s1, k14.cell 2, ⟨(cells_spec p14 (fun w' u => (hc w' (mono v14 u)).2.2.2.2.1) ol (hT w14 v14) (by simp only [List.length_append, List.length_cons, List.length_nil]; omega)).mono ?_⟩⟩
    rintro e w15 ⟨rfl, ⟨ts15, ms15, qs15, P15⟩, f15⟩
    have k15 := f15.k _ _ _ k14 (by decide) (by decide) (by decide) (by decide)
    obtain ⟨s16, w16, hr16, _, c16, k16⟩ := P15.str [32, 124] (by simp only [List.length_append, List.length_cons, List.length_nil]; omega)
    refine ⟨_, rfl, ts15, P15.hg.cell 0, s16, w16, hr16, c16, fun w17 s17 => ?_⟩
    obtain ⟨p17, f17⟩ := k16 w17 s17
    have k17 := f17.k _ _ _ k15 (by decide) (by decide) (by decide) (by decide)
    have g17 := (g14.trans f15).trans f17
    have v17 := mono u3 g17
    refine ⟨s2, k17.cell 3, ⟨(cells_spec p17 (fun w' u => (hc w' (mono v17 u)).2.2.2.2.2) os (hT w17 v17) (by simp only [List.length_append, List.length_cons, List.length_nil]; omega)).mono ?_⟩⟩
    rintro e w18 ⟨rfl, ⟨ts18, ms18, qs18, P18⟩, f18⟩
    refine ⟨_, rfl, ts18, P18.hg.cell 0, fun w19 n19 => ?_⟩
    obtain ⟨s20, w20, hr20, c20, k20⟩ := P18.byte 10 rfl (by simp only [List.length_append, List.length_cons, List.length_nil]; omega) n19
    refine ⟨s20, w20, hr20, c20, fun w21 s21 => ?_⟩
    obtain ⟨p21, f21⟩ := k20 w21 s21
    refine ⟨⟨k + 1, _, _, rfl, by omega, p21, mono u3 ((g17.trans f18).trans f21), ?_, e2, ?_⟩, by omega⟩
    · rw [← e1]
      unfold rowT
      simp only [List.append_assoc, List.cons_append, List.nil_append]
    · simp only [List.length_append, List.length_cons, List.length_nil]; omega
  -- the objects
  have hkR : k = R.length := by omega
  subst hkR
  rw [List.drop_length] at e1 e2 hb
  simp only [show rowsT m' [] = ([], m') from rfl, List.append_nil] at e1 e2
  have hseen : seenT (ofT b L) R = (t' ++ (objsT (ofT b L) 65536 0 m').1, (objsT (ofT b L) 65536 0 m').2) := by unfold seenT; rw [e1, e2]
  refine ⟨fun n w' => ∃ (i : Nat) (t' : List UInt8) (m' : List Nat), n = (i : Nat) ∧ i ≤ m'.length ∧ ST w' w.heap.size w0.heap.size w.heap.size (some a) t' m' (m'.take i) ∧ UA a w.heap.size w w' ∧ t' ++ (objsT (ofT b L) (65536 - i) i m').1 = (seenT (ofT b L) R).1 ∧ (objsT (ofT b L) (65536 - i) i m').2 = (seenT (ofT b L) R).2 ∧ t'.length ≤ 10000000000 + i * 100000000,
    fun n _ => (65536 - n).toNat, ⟨0, t', m', rfl, Nat.zero_le _, h3, u3, by rw [hseen], by rw [hseen], by omega⟩, ?_⟩
  clear hseen e1 e2 h3 u3 hb
  rintro _ n w4 ⟨i, t', m', rfl, hi, ⟨ts4, ms4, qs4, P4⟩, u4, e1, e2, hb⟩
  have hm4 := P4.mn
  have gd4 := P4.hgd
  have hml4 := gd4.len
  have ei : IntKind.i64.wrap ((i : Int) + 1) = ((i + 1 : Nat) : Int) := by rw [wrap_i64 (by omega) (by omega)]; omega
  rw [ei]
  refine ⟨ms4, P4.hg.cell 2, fun hlt w5 n5 => ?_, fun hge => ?_⟩
  rotate_left
  · have him : i = m'.length := by omega
    rw [objsT_end (by omega)] at e1 e2
    dsimp only at e1 e2
    rw [List.append_nil] at e1
    rw [← e1, ← e2]
    have hs := P4.ht.rd.str
    exact ⟨ts4, P4.hg.cell 0, mkB t', w4, hs, rfl, ⟨qs4, (P4.hq a rfl).1, by have := (P4.hq a rfl).2; rw [him, List.take_length] at this; exact this⟩, u4⟩
  obtain ⟨id, hid⟩ : ∃ id, m'[i]? = some id := ⟨_, List.getElem?_eq_getElem (by omega)⟩
  have hid64 := gd4.lt id (List.mem_of_getElem? hid)
  rw [show 65536 - i = (65536 - (i + 1)) + 1 by omega, objsT_step hid] at e1 e2
  dsimp only at e1 e2
  have k5 := Blk.new n5
  have P5 := P4.ext n5.ext
  obtain ⟨pm, hpm, hcm⟩ := P5.hm.rd.2 (by omega)
  have hidc := hcm i (.int .u64 (id : Nat)) (by unfold uv; rw [List.getElem?_map, hid]; rfl)
  have u5 : UA a w.heap.size w w5 := u4.ext n5.ext
  have z4 := u4.size
  have env : ∀ {k T : Nat} {cs : List Value}, Blk w k T cs → k ≠ a → Blk w5 k T cs := fun {k T cs} hb hne => hb.upd u5 (by rintro (h | h); exact hne h; have := hb.lt; omega)
  have hta : th ≠ a := kt.ne ka (by decide)
  have hLn : ThK (UA a w.heap.size w5) ths L := hL.mono fun w' u => u5.same u
  refine ⟨fun w' => ∃ sl : Sl, Blk w' w4.heap.size 48 [.string (mkB (ofT b L id).lab), .slice sl.a sl.n sl.c] ∧ Own w' w.heap.size 49 3 sl (clV (ofT b L id).cells) ∧ ST w' w.heap.size w0.heap.size w.heap.size (some a) t' m' (m'.take (i + 1)) ∧ UA a w.heap.size w w',
    ⟨ms4, P5.hg.cell 2, by omega, by omega, pm, hpm, _, by rw [Int.toNat_natCast]; exact hidc, ⟨(clo_spec ⟨ts4, ms4, qs4, P5⟩ hid64 hb64 (by rw [List.length_take]; omega) hab (env kb hbb) (env kt hta) ⟨kb.lt, hbb⟩ hLn hm hml).mono ?_⟩⟩, ?_⟩
  · rintro e w6 ⟨sl, rfl, o6, p6, u6, t6⟩
    have k6 := t6 _ _ _ k5 (by decide) (by decide) (by decide) (by decide)
    refine ⟨_, sl, rfl, rfl, k6.canSetN 0 2 (by simp), fun w7 s7 => ⟨sl, s7.blk k6, ?_, ?_, ?_⟩⟩
    · exact (o6.upd s7.upd (own_blk_ne o6 k6 (by decide))).mono (by have := n5.size; omega)
    · rw [take_snoc hid]; exact p6.setO k6 s7
    · exact (u5.same u6).trans s7.upd fun j hj hn => ⟨hn, fun e => by dsimp only at e; omega⟩
  rintro _ w6 ⟨sl, k6, o6, ⟨ts6, ms6, qs6, P6⟩, u6⟩
  have okx := okt id hid64
  have hbx := hbO id
  generalize ofT b L id = ob at *
  unfold obB at hbx
  obtain ⟨gd7, hl7⟩ := cellsT_gd gd4 okx
  have a7 := itoa_len (n := ((i + 1 : Nat) : Int)) (by omega) (by omega)
  refine ⟨ts6, P6.hg.cell 0, fun w7 n7 => ?_⟩
  obtain ⟨s8, w8, hr8, c8, k8⟩ := P6.byte 35 rfl (by omega) n7
  refine ⟨s8, w8, hr8, c8, fun w9 s9 => ?_⟩
  obtain ⟨⟨ts9, ms9, qs9, P9⟩, f9⟩ := k8 w9 s9
  have k9 := f9.k _ _ _ k6 (by decide) (by decide) (by decide) (by decide)
  refine ⟨ts9, P9.hg.cell 0, ⟨(P9.num (by omega) (by omega) (by rw [List.length_append, List.length_singleton]; omega) (hT w9 (mono u6 f9))).mono ?_⟩⟩
  rintro e w10 ⟨s10, rfl, _, c10, k10⟩
  refine ⟨s10, rfl, c10, fun w11 s11 => ?_⟩
  obtain ⟨⟨ts11, ms11, qs11, P11⟩, f11⟩ := k10 w11 s11
  have k11 := f11.k _ _ _ k9 (by decide) (by decide) (by decide) (by decide)
  refine ⟨ts11, P11.hg.cell 0, fun w12 n12 => ?_⟩
  obtain ⟨s13, w13, hr13, c13, k13⟩ := P11.byte 32 rfl (by simp only [List.length_append, List.length_cons, List.length_nil]; omega) n12
  refine ⟨s13, w13, hr13, c13, fun w14 s14 w15 q15 => ?_⟩
  obtain ⟨⟨ts15, ms15, qs15, P14⟩, f14⟩ := k13 w14 s14
  have P15 := P14.ext q15.ext
  have k15 := (f14.k _ _ _ k11 (by decide) (by decide) (by decide) (by decide)).ext q15.ext
  obtain ⟨s16, w16, hr16, u16, c16, k16⟩ := P15.str ob.lab (by simp only [List.length_append, List.length_cons, List.length_nil]; omega)
  refine ⟨own1 ts15, ts15, fun w' u => (P15.stays P15.hg (by decide) u).cell 0, _, fun w' u => (P15.stays k15 (by decide) u).cell 0, s16, w16, hr16, u16, c16, fun w17 s17 => ?_⟩
  obtain ⟨⟨ts17, ms17, qs17, P17⟩, f17⟩ := k16 w17 s17
  have k17 := f17.k _ _ _ k15 (by decide) (by decide) (by decide) (by decide)
  refine ⟨ts17, P17.hg.cell 0, fun w18 n18 => ?_⟩
  obtain ⟨s19, w19, hr19, c19, k19⟩ := P17.byte 58 rfl (by simp only [List.length_append, List.length_cons, List.length_nil]; omega) n18
  refine ⟨s19, w19, hr19, c19, fun w20 s20 => ?_⟩
  obtain ⟨p20, f20⟩ := k19 w20 s20
  have k20 := f20.k _ _ _ k17 (by decide) (by decide) (by decide) (by decide)
  have g20 : FR w.heap.size w6 w20 := (((f9.trans f11).trans f14).trans (FR.ext q15.ext)).trans (f17.trans f20)
  have v20 := mono u6 g20
  refine ⟨sl, k20.cell 1, ⟨(cells_spec p20 (fun w' u => (o6.kt (g20.trans u).k (by decide) (by decide) (by decide) (by decide)).rd) okx (hT w20 v20) (by simp only [List.length_append, List.length_cons, List.length_nil]; omega)).mono ?_⟩⟩
  rintro e w21 ⟨rfl, ⟨ts21, ms21, qs21, P21⟩, f21⟩
  refine ⟨_, rfl, ts21, P21.hg.cell 0, fun w22 n22 => ?_⟩
  obtain ⟨s23, w23, hr23, c23, k23⟩ := P21.byte 10 rfl (by simp only [List.length_append, List.length_cons, List.length_nil]; omega) n22
  refine ⟨s23, w23, hr23, c23, fun w24 s24 => ?_⟩
  obtain ⟨p24, f24⟩ := k23 w24 s24
  have hpre := cellsT_pre ob.cells m'
  rw [take_pre hpre (show i + 1 ≤ m'.length by omega)] at p24
  refine ⟨⟨i + 1, _, _, rfl, ?_, p24, mono u6 ((g20.trans f21).trans f24), ?_, e2, ?_⟩, by dsimp only; omega⟩
  · have := hpre.length_le; omega
  · rw [← e1]
    unfold objT
    simp only [List.append_assoc, List.cons_append, List.nil_append]
  · simp only [List.length_append, List.length_cons, List.length_nil]; omega
end Go.Proofs.YtepmokkhcombmaaDoor.V
