/-
  The laws of types: Headers.
-/
import Derived.Test.YtiljdcopkgmcbaaLy5
import Derived.Test.YtiljdcopkgmcbaaVcD
namespace Go.Proofs.Ytiljdcopkgmcbaa.V
open Go Go.RowKit
set_option linter.unusedVariables false
set_option linter.unusedSimpArgs false
set_option maxRecDepth 100000

/-- a header in a block of its own -/
abbrev HB (w : World) (g : Nat) (h : Hd4) : Prop := Blk w g 50 [.int .i64 h.k, .int .i64 h.t, .int .i64 h.l, .int .u64 (h.r : Nat)]
theorem HB.made {w w1 w2 : World} {h : Hd4} (n : NewW w (.cells #[.int .i64 0, .int .i64 0, .int .i64 0, .int .u64 0] 50) w1) (s : SetW w1 ⟨w.heap.size, 0, none⟩ [.int .i64 h.k, .int .i64 h.t, .int .i64 h.l, .int .u64 (h.r : Nat)] w2) :
    HB w2 w.heap.size h ∧ Ext w w2 :=
  ⟨hd_set (Blk.new n) s, n.ext.fresh s.upd (by rintro i rfl; exact Nat.le_refl _)⟩
theorem HB.can {w w1 : World} (n : NewW w (.cells #[.int .i64 0, .int .i64 0, .int .i64 0, .int .u64 0] 50) w1) : CanSet w1 ⟨w.heap.size, 0, none⟩ 4 := (Blk.new n).canSetN 0 4 (by simp)
theorem Ext.toS {w w' : World} {S : Nat → Prop} (x : Ext w w') : Upd S w w' := Upd.mono x fun _ _ _ => not_false
theorem typesheaders_walk (w : World) (v0 v1 : Value) (x0 : (Dt.sl 40 TyR).T) (x1 : (Dt.sl 40 AskR).T) (h0 : (Par.one (.sl 40 TyR)).Is w v0 x0) (h1 : (Par.one (.sl 40 AskR)).Is w v1 x1) :
    Calls Try.prog 8 #[v0, v1] w fun e w' => e = .returned (.bool true) ∧ Ext w w' := by
  obtain ⟨T, rfl, hc, hn, hT, ha⟩ := is_types h0
  obtain ⟨qs, rfl, hcq, hnq, hQ, hq⟩ := is_asks h1
  obtain ⟨l, xl⟩ := x0
  obtain ⟨as_, xas⟩ := x1
  clear h0 h1
  dsimp only at *
  refine vc_8 l as_ _ _ ?_
  simp only [eq_self, false_or, or_false, true_and, and_true, decide_eq_true_eq, decide_eq_false_iff_not, gd_st, gd_sf, exists_eq_left', exists_eq_left, Option.some.injEq, Sl.eta, Nat.reduceLeDiff, Int.reduceLE, Int.reduceLT, Int.reduceEq, Int.reduceNe, Nat.reduceMul, Nat.reduceAdd, Nat.reduceSub, Int.toNat_natCast, beq_iff_eq, bne_iff_ne, beq_eq_false_iff_ne, bne_eq_false_iff_eq, pick_and, pick_or, Bool.and_eq_true, Bool.or_eq_true, Bool.and_eq_false_iff, Bool.or_eq_false_iff, ne_eq, not_false_eq_true, Bool.not_eq_true', Bool.not_eq_false', reduceCtorEq, Nat.le_refl, Nat.zero_mul, Nat.mul_one, Nat.zero_add, Int.reduceToNat, ones, one, add_mk, Decidable.not_not, cond_true, cond_false, true_implies, false_implies, implies_true, Bool.not_true, Bool.not_false]
  refine ⟨(shown_spec w).mono ?_⟩
  rintro e w1 ⟨rfl, x1⟩
  refine ⟨_, rfl, ⟨(New_spec (hT.ext x1) ha.p15).mono ?_⟩⟩
  rintro e w2 ⟨x2, hr⟩
  have rr := rRight_spec (hT.ext (x1.trans x2)) ha.p15 ha.of
  have hql := hQ.len
  rcases hr with ⟨hne, rfl⟩ | ⟨he, g, rfl, ht⟩
  · refine ⟨_, _, rfl, ⟨rr.mono ?_⟩⟩
    rintro e w3 ⟨rfl, x3⟩
    exact ⟨_, _, rfl, fun _ => ⟨fun _ => ⟨fun _ => ⟨fun _ => ⟨rb (by simp), (x1.trans x2).trans x3⟩, fun h => (by cases h)⟩, fun h => (hne h).elim⟩, fun h => (h rfl).elim⟩, fun h => (by cases h)⟩
  refine ⟨_, _, rfl, ⟨rr.mono ?_⟩⟩
  rintro e w3 ⟨rfl, x3⟩
  have x03 := (x1.trans x2).trans x3
  have hR := rightT_ok.1 he
  have hT3 := hT.ext x03
  have ht3 := ht.ext x3
  have hQ3 := hQ.ext x03
  refine ⟨_, _, rfl, fun _ => ⟨fun _ => ⟨fun h => (h he).elim, fun _ => ⟨fun n w' => 0 ≤ n ∧ n ≤ as_.n ∧ n ≤ 100 ∧ Ext w3 w', fun n _ => (as_.n - n).toNat, ⟨by omega, by omega, by omega, .refl _⟩, ?_⟩⟩, fun h => (h he.symm).elim⟩, fun h => (by cases h)⟩
  clear rr he x2 hT ht hQ
  rintro _ n w4 ⟨n0, n1, n2, x4⟩
  refine ⟨fun hlt => ⟨fun h20 => ?_, fun h20 => x03.trans x4⟩, fun hge => x03.trans x4⟩
  obtain ⟨i, rfl⟩ : ∃ i : Nat, n = i := ⟨n.toNat, by omega⟩
  obtain ⟨q, hqi⟩ : ∃ q, qs[i]? = some q := ⟨_, List.getElem?_eq_getElem (by omega)⟩
  have hqm := List.mem_of_getElem? hqi
  obtain ⟨p, hp, c0, c1, c2, hql⟩ := (hQ3.ext x4).at_ i q hqi
  have hqf := hq.few q hqm
  have hqa := hq.a q hqm
  have hqb := hq.b q hqm
  have hqn := hql.leni
  refine ⟨n0, hlt, p, hp, q.a, q.b, q.s, rfl, ⟨c0, c1, c2⟩, fun w5 n5 => ⟨rfl, (Blk.new n5).canSetN 0 3 (by simp), fun w6 s6 => ?_⟩⟩
  have k6 := s6.blk (Blk.new n5)
  simp only [setsL, List.set] at k6
  have x46 : Ext w4 w6 := n5.ext.fresh s6.upd (by rintro i rfl; exact Nat.le_refl _)
  intro w7 n7
  have o7 : Own w7 w4.heap.size 3 1 ⟨some ⟨w6.heap.size, 0, none⟩, 0, 0⟩ [] := Own.lit (n := 0) n7 x46.size rfl (by omega)
  have x47 := x46.trans n7.ext
  obtain ⟨r8, w8, hr8, hn8, o8, u8, hb8⟩ := o7.append (t := 34) (ty := 34) tab_ok (by rfl) (by rfl) (by decide) (hql.ext x47) (iv_ones _) (by dsimp only; omega) (by dsimp only; omega) x47.size
  dsimp only at hn8
  have x48 : Ext w4 w8 := x47.fresh u8 fun k hk => by
    obtain ⟨p, hp, rfl⟩ := hk
    exact (o7.base p hp).1
  have k8 := (k6.ext n7.ext).upd u8 (by
    rintro ⟨p, hp, he⟩
    exact own_blk_ne o7 (k6.ext n7.ext) (by decide) p hp he.symm)
  refine ⟨q.s, (k6.ext n7.ext).cell 2, r8, w8, hr8, fun w9 n9 => ?_⟩
  have o9 := o8.ext n9.ext
  have x49 := x48.trans n9.ext
  have rd9 : Rd w9 1 ⟨some ⟨w8.heap.size, 0, none⟩, 1, 1⟩ [.int .i64 (-3)] := (Blk.new n9).rd (z := 1) (o := 0) (n := 1) (c := 1) (by simp)
  obtain ⟨cp, w10, hr10, hn10, o10, u10, hb10⟩ := o9.append (t := 34) (ty := 34) tab_ok (by rfl) (by rfl) (by decide) rd9 (fun v hv => by simp at hv; subst hv; trivial) (by dsimp only; omega) (by dsimp only; omega) x49.size
  dsimp only at hn10
  have x410 : Ext w4 w10 := x49.fresh u10 fun k hk => by
    obtain ⟨p, hp, rfl⟩ := hk
    exact (o9.base p hp).1
  have k10 := (k8.ext n9.ext).upd u10 (by
    rintro ⟨p, hp, he⟩
    exact own_blk_ne o9 (k8.ext n9.ext) (by decide) p hp he.symm)
  have o10' : Own w10 w4.heap.size 3 1 cp (iv (q.l ++ [-3])) := by rw [iv_append]; exact o10
  have hcap := o10.cap
  have rcut : Rd w10 1 ⟨cp.a, q.s.n, cp.c⟩ (iv q.l) := by
    have := o10'.rd.take (k := q.s.n) (c := cp.c) (by omega)
    rw [← hqn] at this ⊢
    rw [show (iv (q.l ++ [-3])).take q.l.length = iv q.l by simp [iv]] at this
    exact this
  refine ⟨cp, w10, hr10, q.a, k10.cell 0, ⟨(record_spec (ht3.ext (x4.trans x410)) q.a).mono ?_⟩⟩
  rintro e w11 ⟨rfl, x11⟩
  refine ⟨_, _, _, _, _, rfl, fun w12 n12 => ⟨rfl, HB.can n12, fun w13 s13 => ?_⟩⟩
  obtain ⟨b1, y13⟩ := HB.made n12 s13
  have x13 : Ext w10 w13 := x11.trans y13
  refine ⟨q.a, (k10.ext x13).cell 0, ⟨(rrecord_spec (hT3.ext ((x4.trans x410).trans x13)) hR q.a hqa.2).mono ?_⟩⟩
  rintro e w14 ⟨rfl, x14⟩
  refine ⟨_, _, _, _, _, rfl, fun w15 n15 => ⟨rfl, HB.can n15, fun w16 s16 => ?_⟩⟩
  obtain ⟨b2, y16⟩ := HB.made n15 s16
  have x1316 := x14.trans y16
  have x16 : Ext w10 w16 := x13.trans x1316
  refine ⟨q.a, (k10.ext x16).cell 0, q.b, (k10.ext x16).cell 1, ⟨(array_spec (ht3.ext ((x4.trans x410).trans x16)) q.a q.b).mono ?_⟩⟩
  rintro e w17 ⟨rfl, x17⟩
  refine ⟨_, _, _, _, _, rfl, fun w18 n18 => ⟨rfl, HB.can n18, fun w19 s19 => ?_⟩⟩
  obtain ⟨b3, y19⟩ := HB.made n18 s19
  have x1619 := x17.trans y19
  have x19 : Ext w10 w19 := x16.trans x1619
  refine ⟨q.a, (k10.ext x19).cell 0, q.b, (k10.ext x19).cell 1, ⟨(rarray_spec (hT3.ext ((x4.trans x410).trans x19)) hR q.a q.b hqa.2).mono ?_⟩⟩
  rintro e w20 ⟨rfl, x20⟩
  refine ⟨_, _, _, _, _, rfl, fun w21 n21 => ⟨rfl, HB.can n21, fun w22 s22 => ?_⟩⟩
  obtain ⟨b4, y22⟩ := HB.made n21 s22
  have x1922 := x20.trans y22
  have x22 : Ext w10 w22 := x19.trans x1922
  have x322 : Ext w3 w22 := (x4.trans x410).trans x22
  rw [cut0]
  refine ⟨fun a b w' => ∃ g5, a = some ⟨g5, 0, none⟩ ∧ b = (closureT (T.map (·.1)) q.a q.l).2 ∧ HB w' g5 (closureT (T.map (·.1)) q.a q.l).1 ∧ Ext w22 w', ?_, ?_⟩
  · intro w23 q23
    have x23 := q23.ext
    have k23 := (k10.ext x22).ext x23
    have hlt23 := k23.lt
    have t23 := ht3.ext (x322.trans x23)
    have r23 := (rcut.ext x22).ext x23
    refine ⟨fun k => w23.heap.size ≤ k, q.a, fun w' u => (k23.upd u (by omega)).cell 0, q.s, fun w' u => (k23.upd u (by omega)).cell 2, by omega, by omega, ⟨(closure_spec t23 q.a r23 (by omega)).mono ?_⟩, fun w24 n24 => ⟨n24.ext.toS, ⟨(closure_spec (t23.ext n24.ext) q.a (r23.ext n24.ext) (by omega)).mono ?_⟩⟩⟩
    · rintro e w24 ⟨rfl, x24⟩
      refine ⟨_, _, _, _, _, rfl, x24.toS, fun w25 n25 => ⟨n25.ext.toS, rfl, HB.can n25, fun w26 s26 => ⟨s26.upd.mono fun k _ hn e => hn (by dsimp only at e; have := x24.size; omega), ?_⟩⟩⟩
      obtain ⟨b5, y26⟩ := HB.made n25 s26
      exact ⟨_, rfl, rfl, b5, (x23.trans x24).trans y26⟩
    · rintro e w25 ⟨rfl, x25⟩
      have b25 := (Blk.new n24).ext x25
      refine ⟨_, _, _, _, _, rfl, x25.toS, rfl, b25.canSetN 0 4 (by simp), fun w26 s26 => ⟨s26.upd.mono fun k _ hn e => hn (by dsimp only at e; omega), ?_⟩⟩
      have b5 := hd_set b25 s26
      exact ⟨_, rfl, rfl, b5, x23.trans ((n24.ext.trans x25).fresh s26.upd (by rintro i rfl; exact Nat.le_refl _))⟩
  rintro _ a b w23 ⟨g5, rfl, rfl, b5, x23⟩
  have k23 := (k10.ext x22).ext x23
  refine ⟨q.a, k23.cell 0, q.s, k23.cell 2, ⟨(rclosure_spec (hT3.ext (x322.trans x23)) hR q.a hqa.2 ((hql.ext (x410.trans x22)).ext x23) (fun c hc => (hq.l q hqm c hc).2) (by omega)).mono ?_⟩⟩
  rintro e w24 ⟨rfl, x24⟩
  refine ⟨_, _, _, _, _, rfl, fun w25 n25 => ⟨rfl, HB.can n25, fun w26 s26 => ?_⟩⟩
  obtain ⟨b6, y26⟩ := HB.made n25 s26
  have x2326 := x24.trans y26
  have x2226 := x23.trans x2326
  have B1 := b1.ext (x1316.trans (x1619.trans (x1922.trans x2226)))
  have B2 := b2.ext (x1619.trans (x1922.trans x2226))
  have B3 := b3.ext (x1922.trans x2226)
  have B4 := b4.ext x2226
  have B5 := b5.ext x2326
  have k26 := k23.ext x2326
  have o26 := o10'.ext (x22.trans x2226)
  refine ⟨_, _, _, _, rfl, ⟨B1.cell 0, B1.cell 1, B1.cell 2, B1.cell 3⟩, _, _, _, _, rfl, ⟨B2.cell 0, B2.cell 1, B2.cell 2, B2.cell 3⟩, fun _ => ⟨fun _ => ⟨_, _, _, _, rfl, ⟨B3.cell 0, B3.cell 1, B3.cell 2, B3.cell 3⟩, _, _, _, _, rfl, ⟨B4.cell 0, B4.cell 1, B4.cell 2, B4.cell 3⟩,
    fun _ => ⟨fun _ => ⟨_, rfl, _, _, _, _, rfl, ⟨B5.cell 0, B5.cell 1, B5.cell 2, B5.cell 3⟩, _, _, _, _, rfl, ⟨b6.cell 0, b6.cell 1, b6.cell 2, b6.cell 3⟩, fun _ => ⟨fun h => (h rfl).elim, fun _ => ?_⟩, fun h => (by simp at h)⟩, fun h => (h rfl).elim⟩, fun h => (by simp at h)⟩, fun h => (h rfl).elim⟩, fun h => (by simp at h)⟩
  intro w27 q27
  have k27 := k26.ext q27.ext
  have o27 := o26.ext q27.ext
  have x27 := x2226.trans q27.ext
  refine ⟨fun _ => False, q.s, fun w' u => (k27.ext u).cell 2, by omega, by omega, q.s, fun w' u => (k27.ext u).cell 2, ⟨(equalL_spec (rcut.ext (x22.trans x27)) (hql.ext (x410.trans (x22.trans x27))) (by omega)).mono ?_⟩⟩
  rintro e w28 ⟨rfl, q28⟩
  have k28 := k27.ext q28.ext
  have x28 := x27.trans q28.ext
  have o28 := o27.ext q28.ext
  obtain ⟨pc, hpc, hcc⟩ := o28.rd.2 (by omega)
  refine ⟨_, rfl, fun _ => ⟨q.s, fun w' u => (k28.ext u).cell 2, by omega, by omega, pc, hpc, -3, fun w' u => Upd.cell u (hcc q.s.n _ (by rw [← hqn]; simp [iv])) not_false, fun h => (h rfl).elim, fun _ => ?_⟩, fun h => absurd h (by simp)⟩
  intro w29 q29
  have k29 := k28.ext q29.ext
  refine ⟨fun _ => False, q.b, fun w' u => (k29.ext u).cell 1, q.b, fun w' u => (k29.ext u).cell 1, ⟨(words_spec _ _ _ _ w29).mono ?_⟩⟩
  rintro e w30 ⟨rfl, x30⟩
  have b630 := ((b6.ext (q27.ext.trans q28.ext)).ext q29.ext).ext x30
  refine ⟨_, rfl, x30, fun _ => ⟨_, _, _, _, rfl, fun w' u => ⟨(b630.ext u).cell 0, (b630.ext u).cell 1, (b630.ext u).cell 2, (b630.ext u).cell 3⟩, _, fun w' u => (b630.ext u).cell 2, ⟨(words_spec _ _ _ _ w30).mono ?_⟩⟩, fun h => (h rfl).elim⟩
  rintro e w31 ⟨rfl, x31⟩
  refine ⟨_, rfl, x31, fun h => (h rfl).elim, fun _ => ⟨⟨by (first | (rw [wrap_i64 (by omega) (by omega)]; omega) | (dsimp only; rw [wrap_i64 (by omega) (by omega)]; omega) | (dsimp only; omega)), by (first | (rw [wrap_i64 (by omega) (by omega)]; omega) | (dsimp only; rw [wrap_i64 (by omega) (by omega)]; omega) | (dsimp only; omega)), by (first | (rw [wrap_i64 (by omega) (by omega)]; omega) | (dsimp only; rw [wrap_i64 (by omega) (by omega)]; omega) | (dsimp only; omega)), ?_⟩, by (first | (rw [wrap_i64 (by omega) (by omega)]; omega) | (dsimp only; rw [wrap_i64 (by omega) (by omega)]; omega) | (dsimp only; omega))⟩⟩
  exact ((x4.trans x410).trans (x22.trans x28)).trans (q29.ext.trans (x30.trans x31))
end Go.Proofs.Ytiljdcopkgmcbaa.V
