/-
  Law HeapPlays: the walk.
-/
import Derived.Test.YtggpomialmpgoaaPq4
import Derived.Test.YtggpomialmpgoaaVcD
namespace Go.Proofs.Ytggpomialmpgoaa.V
open Go Go.RowKit
set_option linter.unusedVariables false
set_option linter.unusedSimpArgs false
set_option maxRecDepth 100000

abbrev OpR : Rw := .cons (.int .i64) (.cons (.int .i64) (.cons (.int .i64) (.cons (.int .i64) (.cons (.int .u64) (.cons (.sl 8 (.cons (.int .u64) (.nil))) (.cons (.sl 8 (.cons (.int .i64) (.nil))) (.cons (.int .i64) (.cons (.int .i64) (.cons (.int .u64) (.cons (.bool) (.nil)))))))))))
/-- an element of a script -/
theorem op_at {w : World} {v : Value} {x : (Dt.sl 120 OpR).T} (h : (Dt.sl 120 OpR).Is w v x) : v = .slice x.1.a x.1.n x.1.c ∧ x.1.n ≤ x.1.c ∧ x.1.n ≤ 1172812402927 ∧
    ∀ i, i < x.1.n → ∃ (p : Addr) (o : OpV) (cs : List Nat) (ls : List Int), x.1.a = some p ∧ o.Ok w cs ls ∧ ∀ w', Ext w w' →
      w'.cell? ((p.add (i * 11)).add 0) = some (.int .i64 o.k) ∧ w'.cell? ((p.add (i * 11)).add 1) = some (.int .i64 o.h.k) ∧ w'.cell? ((p.add (i * 11)).add 2) = some (.int .i64 o.h.t) ∧
      w'.cell? ((p.add (i * 11)).add 3) = some (.int .i64 o.h.l) ∧ w'.cell? ((p.add (i * 11)).add 4) = some (.int .u64 (o.h.r : Nat)) ∧ w'.cell? ((p.add (i * 11)).add 5) = some (.slice o.c.a o.c.n o.c.c) ∧ w'.cell? ((p.add (i * 11)).add 6) = some (.slice o.l.a o.l.n o.l.c) ∧
      w'.cell? ((p.add (i * 11)).add 7) = some (.int .i64 o.R) ∧ w'.cell? ((p.add (i * 11)).add 8) = some (.int .i64 o.I) ∧ w'.cell? ((p.add (i * 11)).add 9) = some (.int .u64 (o.x : Nat)) ∧ w'.cell? ((p.add (i * 11)).add 10) = some (.bool o.z) := by
  have h' := h
  unfold Dt.Is at h'
  obtain ⟨h1, h2, h3, h4, h5, h6, h7⟩ := h'
  rw [reach_eq] at h5
  refine ⟨h1, h3, by omega, fun i hi => ?_⟩
  obtain ⟨y, hy⟩ : ∃ y, x.2[i]? = some y := ⟨_, List.getElem?_eq_getElem (by omega)⟩
  obtain ⟨p, vs, hp, ha, hl, hi'⟩ := h7 i y hy
  simp only [Rw.Is] at hi'
  obtain ⟨_, _, rfl, i0, _, _, rfl, i1, _, _, rfl, i2, _, _, rfl, i3, _, _, rfl, i4, _, _, rfl, i5, _, _, rfl, i5', _, _, rfl, i6, _, _, rfl, i7, _, _, rfl, i8, _, _, rfl, i9, rfl⟩ := hi'
  obtain ⟨rfl, j0⟩ : _ = _ ∧ _ := by simpa only [Dt.Is] using i0
  obtain ⟨rfl, j1⟩ : _ = _ ∧ _ := by simpa only [Dt.Is] using i1
  obtain ⟨rfl, j2⟩ : _ = _ ∧ _ := by simpa only [Dt.Is] using i2
  obtain ⟨rfl, j3⟩ : _ = _ ∧ _ := by simpa only [Dt.Is] using i3
  obtain ⟨rfl, j4⟩ : _ = _ ∧ _ := by simpa only [Dt.Is] using i4
  obtain ⟨rfl, c1, c2, c3, cs, c4, c5⟩ := is_words i5
  obtain ⟨rfl, d1, d2, d3, ls, d4, d5⟩ := is_ints i5'
  obtain ⟨rfl, j6⟩ : _ = _ ∧ _ := by simpa only [Dt.Is] using i6
  obtain ⟨rfl, j7⟩ : _ = _ ∧ _ := by simpa only [Dt.Is] using i7
  obtain ⟨rfl, j8⟩ : _ = _ ∧ _ := by simpa only [Dt.Is] using i8
  obtain rfl : _ = _ := by simpa only [Dt.Is] using i9
  have b0 := wf_i64 j0; have b4 := wf_u64 j4; have b6 := wf_i64 j6; have b7 := wf_i64 j7; have b8 := wf_u64 j8
  refine ⟨p, ⟨y.1, ⟨y.2.1, y.2.2.1, y.2.2.2.1, Int.toNat y.2.2.2.2.1⟩, y.2.2.2.2.2.1.1, y.2.2.2.2.2.2.1.1, y.2.2.2.2.2.2.2.1, y.2.2.2.2.2.2.2.2.1, Int.toNat y.2.2.2.2.2.2.2.2.2.1, y.2.2.2.2.2.2.2.2.2.2.1⟩, cs, ls, hp, ⟨b0, b6, b7, by dsimp only; omega, by dsimp only; omega, c4, by have := c4.lenu; omega, c5, d4, by have := d4.leni; omega, d5⟩, fun w' u => ?_⟩
  have ha := ha.upd u not_false
  have e4 : ((Int.toNat y.2.2.2.2.1 : Nat) : Int) = y.2.2.2.2.1 := Int.toNat_of_nonneg b4.1
  have e8 : ((Int.toNat y.2.2.2.2.2.2.2.2.2.1 : Nat) : Int) = y.2.2.2.2.2.2.2.2.2.1 := Int.toNat_of_nonneg b8.1
  dsimp only
  rw [e4, e8]
  exact ⟨ha 0 _ rfl, ha 1 _ rfl, ha 2 _ rfl, ha 3 _ rfl, ha 4 _ rfl, ha 5 _ rfl, ha 6 _ rfl, ha 7 _ rfl, ha 8 _ rfl, ha 9 _ rfl, ha 10 _ rfl⟩
set_option maxHeartbeats 2000000 in
theorem heapplays_walk (w : World) (v0 v1 v2 v3 : Value) (x0 : Int) (x1 : (Par.one (.sl 8 (.cons (.int .i64) .nil))).T) (x2 : Bool) (x3 : (Par.one (.sl 120 OpR)).T) (h0 : (Par.one (.int .i64)).Is w v0 x0) (h1 : (Par.one (.sl 8 (.cons (.int .i64) .nil))).Is w v1 x1) (h2 : (Par.one .bool).Is w v2 x2) (h3 : (Par.one (.sl 120 OpR)).Is w v3 x3) :
    Calls Try.prog 7 #[v0, v1, v2, v3] w fun e w' => e = .returned (.bool true) ∧ Ext w w' := by
  obtain ⟨rfl, r0⟩ := h0
  obtain ⟨rfl, hc1, hm1, _, fl, hfl, hfb⟩ := is_ints h1
  obtain rfl : v2 = .bool x2 := h2
  obtain ⟨rfl, hc, hl, hop⟩ := op_at h3
  have r0 := wf_i64 r0
  obtain ⟨forced, ls⟩ := x1
  obtain ⟨script, lss⟩ := x3
  dsimp only at *
  have hn := hfl.leni
  refine vc_7 x0 forced x2 script _ _ ?_
  simp only [eq_self, false_or, or_false, true_and, and_true, decide_eq_true_eq, decide_eq_false_iff_not, gd_st, gd_sf, exists_eq_left', exists_eq_left, Option.some.injEq, Sl.eta, Nat.reduceLeDiff, Int.reduceLE, Int.reduceLT, Int.reduceEq, Int.reduceNe, Nat.reduceMul, Nat.reduceAdd, Nat.reduceSub, Int.toNat_natCast, beq_iff_eq, bne_iff_ne, beq_eq_false_iff_ne, bne_eq_false_iff_eq, pick_and, pick_or, Bool.and_eq_true, Bool.or_eq_true, Bool.and_eq_false_iff, Bool.or_eq_false_iff, ne_eq, not_false_eq_true, Bool.not_eq_true', Bool.not_eq_false', reduceCtorEq, Nat.le_refl, Nat.zero_mul, Nat.mul_one, Nat.zero_add, Int.reduceToNat, ones, one, add_mk, Decidable.not_not, cond_true, cond_false, true_implies, false_implies, implies_true, Bool.not_true, Bool.not_false]
  refine ⟨(shown_spec w).mono ?_⟩
  rintro e w1 ⟨rfl, x01⟩
  refine ⟨_, rfl, fun w2 n2 => ?_⟩
  have z1 := x01.size; have z2 := n2.size
  refine ⟨fun sl w' => ∃ qs : List Int, qs.length ≤ 300 ∧ (∀ q ∈ qs, 0 ≤ q) ∧ Tl w' w.heap.size 3 sl (iv qs) ∧ Ext w w', ⟨fun sl n w' => ∃ (k : Nat) (qs : List Int), n = (k : Nat) ∧ k ≤ fl.length ∧ k ≤ 300 ∧ qs.length = k ∧ (∀ q ∈ qs, 0 ≤ q) ∧ Tl w' w.heap.size 3 sl (iv qs) ∧ Ext w w', fun _ n _ => (fl.length - n).toNat,
    ⟨0, [], rfl, Nat.zero_le _, by omega, rfl, fun q hq => (by cases hq), .of_own (Own.lit (z := 1) (n := 0) (cs := []) n2 (by omega) rfl (by decide)), x01.trans n2.ext⟩, ?_⟩, ?_⟩
  · rintro _ sl n w3 ⟨k, qs, rfl, hk, hk3, hql, hpos, t3, x3⟩
    have ek : IntKind.i64.wrap ((k : Int) + 1) = ((k + 1 : Nat) : Int) := by rw [wrap_i64 (by omega) (by omega)]; omega
    rw [ek]
    have z3 := x3.size
    have hqn := t3.rd.leni
    refine ⟨fun hlt => ⟨fun h300 => ?_, fun _ => ⟨qs, by omega, hpos, t3, x3⟩⟩, fun _ => ⟨qs, by omega, hpos, t3, x3⟩⟩
    obtain ⟨p, y, hp, hy, hcy⟩ := (hfl.ext x3).intl k (by omega)
    rw [Nat.mul_one] at hcy
    have hyb := hfb y (List.mem_of_getElem? hy)
    refine ⟨by omega, hlt, p, hp, y, by rw [Int.toNat_natCast]; exact hcy, ⟨(pick_spec y 1099511627776 w3 hyb.1 hyb.2 (by decide)).mono ?_⟩⟩
    rintro e w4 ⟨rfl, rfl⟩
    have hpk := pk_lt (c := y) (n := 1099511627776) (by decide)
    refine ⟨_, rfl, fun w5 n5 => ?_⟩
    have z5 := n5.size
    obtain ⟨s', w6, hr6, hrn6, t6, u6, c6⟩ := (t3.ext n5.ext).append8 (P := Try.prog) tab_ok (t := 22) (ty := 22) (by rfl) (by rfl) (ad := ⟨w4.heap.size, 0, none⟩) (v := .int .i64 (pk y 1099511627776)) ((Blk.new n5).cell 0) trivial (by omega) (by omega)
    refine ⟨s', w6, hr6, ⟨k + 1, qs ++ [pk y 1099511627776], rfl, by omega, by omega, by rw [List.length_append, List.length_singleton, hql], fun q hq => ?_, by rw [iv_append]; exact t6, (x3.trans n5.ext).fresh u6 (by rintro i ⟨q, hq, rfl⟩; exact (t3.base q hq).1)⟩, by dsimp only; omega⟩
    rcases List.mem_append.1 hq with hq | hq
    · exact hpos q hq
    · rw [List.mem_singleton.1 hq]; exact hpk.1
  rintro _ sl w3 ⟨qs, hql, hpos, t3, x3⟩
  have hpk := pk_lt (c := x0) (n := 400) (by decide)
  have z3 := x3.size
  refine ⟨(pick_spec x0 400 w3 r0.1 r0.2 (by decide)).mono ?_⟩
  rintro e w4 ⟨rfl, rfl⟩
  refine ⟨_, rfl, ⟨(newH_spec (n := pk x0 400) (by omega) t3.rd x2).mono ?_⟩⟩
  rintro e w5 ⟨x5, hres⟩
  have z5 := x5.size
  have hH : newHT (pk x0 400) qs x2 = some ⟨newA (pk x0 400).toNat, qs, x2, false, 0, 0, 0⟩ := by
    unfold newHT; rw [if_pos ⟨hpk.1, by omega, by omega, hpos⟩]
  rw [hH] at hres
  rcases hres with ⟨h, _⟩ | ⟨x, b1, g1, r, H, h, rfl, k1, k2, k3, k4, k5⟩
  · cases h
  refine ⟨_, _, rfl, ⟨(pick_spec x0 400 w5 r0.1 r0.2 (by decide)).mono ?_⟩⟩
  rintro e w6 ⟨rfl, rfl⟩
  refine ⟨_, rfl, ⟨(rnewH_spec (n := pk x0 400) (by omega) (t3.ext x5).rd x2).mono ?_⟩⟩
  rintro e w7 ⟨x7, hres⟩
  have z7 := x7.size
  rw [hH] at hres
  rcases hres with ⟨h', _⟩ | ⟨y, b2, g2, fs, H2, h', rfl, m1, m2, m3, m5⟩
  · cases h'
  obtain rfl : H2 = H := by rw [h] at h'; exact (Option.some.inj h').symm
  have hHe : H2 = ⟨newA (pk x0 400).toNat, qs, x2, false, 0, 0, 0⟩ := (Option.some.inj h).symm
  have hopn : H2.A.opn = false := by rw [hHe]; rfl
  have hfll : H2.fl.length ≤ 300 := by rw [hHe]; exact hql
  have k5' := k5.ext x7
  have hb1 := k5.lt
  refine ⟨_, _, rfl, fun _ => ⟨fun _ => ⟨fun _ => ⟨_, rfl, _, k5'.hd.cell 0, fun _ => ⟨fun _ => ⟨fun hne => absurd rfl hne, fun _ => ⟨by simp [len', wr, splice, rep], fun w8 n8 => ?_⟩⟩, fun hne => absurd rfl hne⟩, fun h => (by cases h)⟩, fun h => (by cases h)⟩, fun h => (by cases h)⟩, fun h => (by cases h)⟩
  have z8 := n8.size
  let a : Ad := ⟨w7.heap.size, x, b1, g1, r, y, b2, g2, fs⟩
  have h8 : Pq w w8 a H2 H2 ⟨none, 0, 0⟩ [] := ⟨k5'.ext n8.ext, ⟨m5.ar.ext n8.ext, m5.hd.ext n8.ext, (m5.fo.ext n8.ext).mono (by omega)⟩, Blk.new n8, .of_own (Own.nil _ _ _ _), fun v hv => (by cases hv), hopn, hopn, hfll, by dsimp only [a]; omega, fun q hq => (by cases hq), by dsimp only [a]; omega, ((x3.trans x5).trans x7).trans n8.ext⟩
  refine ⟨fun n w' => ∃ j : Nat, n = j ∧ j ≤ script.n ∧ ∃ H s rs, Pq w w' a H H s rs ∧ rs.length ≤ 17592186043904 + j, fun n _ => (script.n - n).toNat, ⟨0, rfl, by omega, _, _, _, h8, by simp⟩, ?_⟩
  rintro _ n w9 ⟨j, rfl, hj, H, s, rs, h9, hrs⟩
  have ej : IntKind.i64.wrap ((j : Int) + 1) = ((j + 1 : Nat) : Int) := by rw [wrap_i64 (by omega) (by omega)]; omega
  refine ⟨fun hlt => ?_, fun hge => ?_⟩
  · obtain ⟨q, o, cs, ls', hq, ok, hcells⟩ := hop j (by omega)
    refine ⟨by omega, hlt, q, hq, _, _, _, _, _, o.c, o.l, _, _, _, _, rfl, by rw [Int.toNat_natCast]; exact hcells _ h9.xx, ⟨(step_spec h9 ok (by omega)).mono ?_⟩⟩
    rintro e w10 ⟨rfl, H', s', rs', h10, hrs'⟩
    rw [ej]
    exact ⟨_, rfl, fun h => (by cases h), fun _ => ⟨⟨j + 1, rfl, by omega, H', s', rs', h10, by omega⟩, by dsimp only; omega⟩⟩
  have hn := h9.h1.ar.ok.n; have hlen := h9.h1.ar.ok.len
  refine ⟨fun n w' => ∃ j : Nat, n = j ∧ j ≤ H.A.ws.length ∧ Pq w w' a H H s rs, fun n _ => (H.A.ws.length - n).toNat, ⟨0, rfl, by omega, h9⟩, ?_⟩
  rintro _ n w10 ⟨i, rfl, hi, h10⟩
  have ei : IntKind.i64.wrap ((i : Int) + 1) = ((i + 1 : Nat) : Int) := by rw [wrap_i64 (by omega) (by omega)]; omega
  rw [ei]
  let sl' : Sl := ⟨some ⟨b2, 0, none⟩, H.A.ws.length, H.A.ws.length⟩
  refine ⟨_, rfl, _, h10.h2.hd.cell 0, _, rfl, sl', h10.h2.ar.hd.cell 1, fun hlt => ?_, fun hge w11 q11 => ?_⟩
  · have hlt' : i < H.A.ws.length := by have : ((i : Nat) : Int) < ((H.A.ws.length : Nat) : Int) := hlt; omega
    refine ⟨_, rfl, _, h10.h1.hd.cell 0, ⟨(word_spec h10.h1.ar _).mono ?_⟩⟩
    rintro e w11 ⟨rfl, rfl⟩
    have ew : wordO H.A (i : Int) = (H.A.ws.getD i 0, true) := by unfold wordO; rw [if_pos (by omega), Int.toNat_natCast]
    rw [ew]
    refine ⟨_, _, rfl, fun _ => ⟨_, rfl, _, h10.h2.hd.cell 0, _, rfl, sl', h10.h2.ar.hd.cell 1, by omega, hlt, _, rfl, _, by rw [Int.toNat_natCast]; exact h10.h2.ar.wordAt hlt', fun hne => absurd rfl hne, fun _ => ⟨⟨i + 1, rfl, by omega, h10⟩, by dsimp only; omega⟩⟩, fun h => (by cases h)⟩
  · have h11 := h10.ext q11.ext
    refine ⟨fun _ => False, _, rfl, _, _, _, rfl, fun w' u => ⟨(h11.h2.hd.ext u).cell 4, (h11.h2.hd.ext u).cell 5, (h11.h2.hd.ext u).cell 6⟩, ⟨(stats_spec h11.h1).mono ?_⟩⟩
    rintro e w12 ⟨rfl, x12⟩
    exact ⟨_, _, _, rfl, x12, rb (by simp), h11.xx.trans x12⟩
end Go.Proofs.Ytggpomialmpgoaa.V
