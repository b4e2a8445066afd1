/-
  Law CheneyMoves: the walk.
-/
import Derived.Test.YtgbpglfieellpaaCm3
namespace Go.Proofs.Ytgbpglfieellpaa.V
open Go Go.RowKit
set_option linter.unusedVariables false
set_option linter.unusedSimpArgs false
set_option maxRecDepth 100000

theorem sum_ge {α : Type} (f : α → Nat) (h : ∀ a, 1 ≤ f a) : ∀ l : List α, l.length ≤ (l.map f).sum
  | [] => Nat.le_refl _
  | a :: l => by have := sum_ge f h l; have := h a; simp only [List.map_cons, List.sum_cons, List.length_cons]; omega
theorem cheneymoves_walk (w : World) (v0 v1 v2 v3 v4 v5 : Value) (x0 : (Par.one (.sl 64 ThR)).T) (x1 : (Par.one (.sl 32 WdR)).T) (x2 : (Par.one (.sl 8 (.cons (.int .u64) .nil))).T) (x3 : (Par.one (.sl 8 (.cons (.int .i64) .nil))).T) (x4 : Int) (x5 : Bool)
    (h0 : (Par.one (.sl 64 ThR)).Is w v0 x0) (h1 : (Par.one (.sl 32 WdR)).Is w v1 x1) (h2 : (Par.one (.sl 8 (.cons (.int .u64) .nil))).Is w v2 x2) (h3 : (Par.one (.sl 8 (.cons (.int .i64) .nil))).Is w v3 x3) (h4 : (Par.one (.int .i64)).Is w v4 x4) (h5 : (Par.one .bool).Is w v5 x5)
    (hk2 : x2.2.length ≤ 1048576) (hk3 : x3.2.length ≤ 1048576) :
    Calls Try.prog 5 #[v0, v1, v2, v3, v4, v5] w fun e w' => e = .returned (.bool true) ∧ Ext w w' := by
  have e2 : x2.2.length = x2.1.n := by
    have h' : (Dt.sl 8 (.cons (.int .u64) .nil)).Is w v2 x2 := h2
    unfold Dt.Is at h'; exact h'.2.1
  have e3 : x3.2.length = x3.1.n := by
    have h' : (Dt.sl 8 (.cons (.int .i64) .nil)).Is w v3 x3 := h3
    unfold Dt.Is at h'; exact h'.2.1
  obtain ⟨rfl, hc, hm, ts0, hts0⟩ := ths_is h0
  obtain ⟨rfl, hc1, hm1, hwd⟩ := words_at h1
  obtain ⟨rfl, hc2, hm2, _, rs, hrs, hrb⟩ := is_words h2
  obtain ⟨rfl, hc3, hm3, _, ns, hns, hnb⟩ := is_ints h3
  obtain ⟨rfl, r4⟩ := h4
  obtain rfl : v5 = .bool x5 := h5
  have r4 := wf_i64 r4
  obtain ⟨things, ls0⟩ := x0
  obtain ⟨words, ls1⟩ := x1
  obtain ⟨roots, ls2⟩ := x2
  obtain ⟨named, ls3⟩ := x3
  dsimp only at *
  have hrsn := hrs.lenu; have hnsn := hns.leni
  refine vc_5 things words roots named x4 x5 _ _ ?_
  simp only [eq_self, false_or, or_false, true_and, and_true, decide_eq_true_eq, decide_eq_false_iff_not, gd_st, gd_sf, exists_eq_left', exists_eq_left, Option.some.injEq, Sl.eta, Nat.reduceLeDiff, Int.reduceLE, Int.reduceLT, Int.reduceEq, Int.reduceNe, Nat.reduceMul, Nat.reduceAdd, Nat.reduceSub, Int.toNat_natCast, beq_iff_eq, bne_iff_ne, beq_eq_false_iff_ne, bne_eq_false_iff_eq, pick_and, pick_or, Bool.and_eq_true, Bool.or_eq_true, Bool.and_eq_false_iff, Bool.or_eq_false_iff, ne_eq, not_false_eq_true, Bool.not_eq_true', Bool.not_eq_false', reduceCtorEq, Nat.le_refl, Nat.zero_mul, Nat.mul_one, Nat.zero_add, Int.reduceToNat, ones, one, add_mk, Decidable.not_not, cond_true, cond_false, true_implies, false_implies, implies_true, Bool.not_true, Bool.not_false]
  refine ⟨(shown_spec w).mono ?_⟩
  rintro e w1 ⟨rfl, x01⟩
  refine ⟨_, rfl, fun s' w' => w' = w1 ∧ ∃ ts, ThsIs w s' ts ∧ ts.length ≤ 200, ⟨fun h => ⟨by omega, rfl, ts0.take 200, hts0.cut (by omega), by rw [List.length_take]; omega⟩, fun h => ⟨rfl, ts0, hts0, by have := hts0.n; omega⟩⟩, ?_⟩
  rintro _ s w2 ⟨rfl, ts, hts, hN⟩
  have hsn := hts.n
  refine ⟨(room_spec hts x01 (by omega)).mono ?_⟩
  rintro e w3 ⟨rfl, x23⟩
  have hr := roomT_le ts
  refine ⟨_, rfl, ⟨(pick_spec x4 100 w3 r4.1 r4.2 (by decide)).mono ?_⟩⟩
  rintro e w4 ⟨rfl, rfl⟩
  have hpk := pk_lt (c := x4) (n := 100) (by decide)
  obtain ⟨sp, hsp⟩ : ∃ sp : Nat, pk x4 100 = sp := ⟨(pk x4 100).toNat, by omega⟩
  rw [hsp] at hpk ⊢
  have ew : IntKind.i64.wrap (((roomT ts : Nat) : Int) + (sp : Int)) = ((roomT ts + sp : Nat) : Int) := by rw [wrap_i64 (by omega) (by omega)]; omega
  refine ⟨_, rfl, ?_⟩
  rw [ew]
  have x04 := x01.trans x23
  refine ⟨(new_spec (by omega) _).mono ?_⟩
  rintro e w5 ⟨x45, ⟨hno, _⟩ | ⟨n, b, g, hk, hn', rfl, hb, hg, a5⟩⟩
  · omega
  have hn : n = roomT ts + sp := by omega
  have x05 := x04.trans x45
  have z4 := x04.size; have z5 := x45.size
  have hb5 := a5.ws.lt; have hg5 := a5.hd.lt
  refine ⟨_, _, rfl, fun _ => ⟨fun _ => ⟨fun h => absurd rfl h, fun _ => ⟨(laid_spec hts x05 (by omega) a5 rfl (by show 0 - 0 + roomT ts ≤ n; omega) ⟨by omega, by omega⟩).mono ?_⟩⟩, fun h => (by cases h)⟩, fun h => (by cases h)⟩
  rintro e w6 ⟨sr, A6, pr, rfl, hpr, o6, a6, L6, u6⟩
  have x06 : Ext w w6 := x05.fresh u6 (by rintro k (rfl | rfl) <;> omega)
  have z6 := u6.size
  have hrn := o6.len1
  rw [uv_length, List.length_map, List.length_range] at hrn
  have hf6 : A6.use.f = 0 := by rw [L6.use]; rfl
  refine ⟨_, rfl, ⟨(twin_spec a6 L6.opn hf6).mono ?_⟩⟩
  rintro e w7 ⟨b2, g2, rfl, r7, hb2, hg2, x67⟩
  have z7 := x67.size
  have hb7 := r7.ws.lt; have hg7 := r7.hd.lt
  refine ⟨_, rfl, fun _ => ⟨fun h => (by cases h), fun _ => ?_⟩, fun h => (by rw [hpr] at h; cases h)⟩
  have x07 := x06.trans x67
  refine ⟨(spoilt_spec (rs := sr) (l := words) (a6.ext x67) r7 (by omega) ((o6.ext x67).rd) (fun q hq => by have := o6.base q hq; omega) (by
    intro x hx
    obtain ⟨j, _, rfl⟩ := List.mem_map.1 hx
    have := posR_le ts j
    show 0 + posR ts j + 1 < _
    omega) (by simp; omega) hwd hm1 x07 ⟨by omega, by omega⟩).mono ?_⟩
  rintro e w8 ⟨rfl, A, a8, r8, ho8, u8⟩
  have ho : A.opn = false := ho8.trans L6.opn
  have z8 := u8.size
  have x08 : Ext w w8 := x07.fresh u8 (by rintro k (rfl | rfl) <;> omega)
  have o8 := ((o6.ext x67).upd u8 (fun q hq e => by have := o6.base q hq; omega))
  refine ⟨_, rfl, fun w9 n9 => ?_⟩
  have z9 := n9.size
  have o9 : Own w9 w8.heap.size 23 1 ⟨some ⟨w8.heap.size, 0, none⟩, 0, 0⟩ (uv []) := Own.lit (z := 1) (n := 0) (cs := []) n9 (Nat.le_refl _) rfl (by decide)
  obtain ⟨s1, w10, hr10, hn10, o10, u10, c10⟩ := o9.append (t := 30) (ty := 30) tab_ok (by rfl) (by rfl) (by decide) (hrs.ext (x08.trans n9.ext)) (uv_ones _) (by dsimp only; omega) (by dsimp only; omega) (by omega)
  have x10 : Ext w8 w10 := n9.ext.fresh u10 (by rintro i ⟨q, hq, rfl⟩; exact (o9.base q hq).1)
  refine ⟨s1, w10, hr10, ?_⟩
  refine ⟨fun s w' => ∃ ls : List Nat, Own w' w8.heap.size 23 1 s (uv ls) ∧ (∀ x ∈ ls, x < 18446744073709551616) ∧ ls.length ≤ 4194304 ∧ Ext w8 w', ?_, ?_⟩
  · refine ⟨fun s i w' => ∃ (k : Nat) (ls : List Nat), i = (k : Nat) ∧ k ≤ named.n ∧ Own w' w8.heap.size 23 1 s (uv ls) ∧ (∀ x ∈ ls, x < 18446744073709551616) ∧ ls.length ≤ roots.n + k ∧ Ext w8 w', fun _ i _ => (named.n - i).toNat,
      ⟨0, rs, rfl, Nat.zero_le _, o10, hrb, by omega, x10⟩, ?_⟩
    rintro _ s2 i w11 ⟨k, ls, rfl, hk, o11, hls, hlen, x11⟩
    have z11 := x11.size
    refine ⟨fun hlt => ⟨fun h0 => ?_, fun h0 => ⟨ls, o11, hls, by omega, x11⟩⟩, fun hge => ⟨ls, o11, hls, by omega, x11⟩⟩
    obtain ⟨p, y, hp, hy, hcy⟩ := (hns.ext (x08.trans x11)).intl k (by omega)
    rw [Nat.mul_one] at hcy
    have hyb := hnb y (List.mem_of_getElem? hy)
    refine ⟨by omega, by omega, p, hp, y, by rw [Int.toNat_natCast]; exact hcy, ⟨(pick_spec y (sr.n : Int) w11 hyb.1 hyb.2 (by omega)).mono ?_⟩⟩
    rintro e w12 ⟨rfl, rfl⟩
    have hpk := pk_lt (c := y) (n := (sr.n : Int)) (by omega)
    obtain ⟨j, hjj⟩ : ∃ j : Nat, pk y (sr.n : Int) = j := ⟨(pk y (sr.n : Int)).toNat, by omega⟩
    rw [hjj] at hpk ⊢
    obtain ⟨p1, y1, hp1, hy1, hc1'⟩ := (o8.ext x11).rd.word j (by omega)
    rw [List.getElem?_map, List.getElem?_range (by omega)] at hy1
    injection hy1 with hy1; subst hy1
    rw [Nat.mul_one] at hc1'
    refine ⟨_, rfl, by omega, by omega, p1, hp1, _, by rw [Int.toNat_natCast]; exact hc1', fun w13 n13 => ?_⟩
    have z13 := n13.size
    have h11n := o11.len1
    rw [uv_length] at h11n
    obtain ⟨s3, w14, hr14, hn14, o14, u14, c14⟩ := (o11.ext n13.ext).append (t := 30) (ty := 30) tab_ok (by rfl) (by rfl) (by decide) (x := ⟨some ⟨w12.heap.size, 0, none⟩, 1, 1⟩) (news := uv [toR ts 0 j]) ((Blk.new n13).rd (z := 1) (o := 0) (n := 1) (c := 1) (by simp)) (uv_ones _) (by dsimp only; omega) (by dsimp only; omega) (by omega)
    have ei : IntKind.i64.wrap ((k : Int) + 1) = ((k + 1 : Nat) : Int) := by rw [wrap_i64 (by omega) (by omega)]; omega
    rw [ei]
    refine ⟨s3, w14, hr14, ⟨k + 1, ls ++ [toR ts 0 j], rfl, by omega, by rw [uv_append]; exact o14, fun x hx => ?_, by rw [List.length_append, List.length_singleton]; omega, (x11.trans n13.ext).fresh u14 (by rintro i ⟨q, hq, rfl⟩; exact (o11.base q hq).1)⟩, by dsimp only; omega⟩
    rcases List.mem_append.1 hx with hx | hx
    · exact hls x hx
    · rw [List.mem_singleton.1 hx]
      have := posR_le ts j
      show 0 + posR ts j + 1 < _
      omega
  rintro _ s2 w11 ⟨ls, o11, hls, hlen, x11⟩
  have z11 := x11.size
  have x011 := x08.trans x11
  refine ⟨fun a w' => ∃ D s' c0 c1 c2, a = some ⟨D, 0, none⟩ ∧ DoneB w' D s' ((collectT A ls x5).1.use.e - (collectT A ls x5).1.use.f : Nat) (collectT A ls x5).2.2 1 (cloV c0 c1 c2) ∧ Own w' w11.heap.size 23 1 s' (uv (collectT A ls x5).2.1) ∧ ArW 76 w' b g (collectT A ls x5).1 ∧ w11.heap.size ≤ D ∧ Upd (fun k => k = b ∨ k = g) w11 w', ⟨?_⟩, ?_⟩
  · refine (visited_spec (a8.ext x11) ho o11.rd hls (by omega) x5).mono ?_
    rintro e w12 ⟨s', c0, c1, c2, rfl, V⟩
    obtain ⟨own, ar, ov, hi, u⟩ := V
    have z12 := u.size
    refine ⟨_, _, _, _, .inr ⟨_, _, _, rfl, fun w13 n13 => ⟨rfl, (Blk.new n13).canSetN 0 5 (by simp), fun w14 s14 => ?_⟩⟩⟩
    obtain ⟨D14, x14, _⟩ := DoneB.made n13 s14
    exact ⟨_, s', c0, c1, c2, rfl, D14, own.ext x14, ar.ext x14, z12, u.trans x14 fun _ _ hn => ⟨hn, not_false⟩⟩
  rintro _ a w12 ⟨D, sd, c0, c1, c2, rfl, d12, od12, a12, hD, u12⟩
  have z12 := u12.size
  have hd12 := d12.lt
  have hdb := od12.base
  have r12 := (r8.ext x11).upd u12 (by omega) (by omega)
  have o12 := o11.upd u12 (fun q hq e => by have := o11.base q hq; omega)
  have x012 : Ext w w12 := x011.fresh u12 (by rintro k (rfl | rfl) <;> omega)
  refine ⟨(rcollect_spec r12 ho o12.rd (fun q hq e => by have := o12.base q hq; omega) hls (by omega) x5).mono ?_⟩
  rintro e w13 ⟨sy, rfl, r13, oy, u13⟩
  have z13 := u13.size
  have x013 : Ext w w13 := x012.fresh u13 (by rintro k (rfl | rfl) <;> omega)
  have d13 := d12.upd u13 (by omega)
  have od13 := od12.upd u13 (fun q hq e => by have := hdb q hq; omega)
  have a13 := a12.upd u13 (by omega) (by omega)
  generalize hC : collectT A ls x5 = C at *
  refine ⟨sy, _, _, rfl, _, rfl, _, d13.cell 1, fun _ => ⟨_, rfl, _, d13.cell 2, fun _ => ⟨_, rfl, _, d13.cell 3, fun _ => ⟨(used_spec a13).mono ?_⟩, fun h => absurd rfl h⟩, fun h => absurd rfl h⟩, fun h => absurd rfl h⟩
  rintro e w14 ⟨rfl, q14⟩
  refine ⟨_, rfl, ⟨(rused_spec (r13.ext q14.ext)).mono ?_⟩⟩
  rintro e w15 ⟨rfl, q15⟩
  have x1315 := q14.ext.trans q15.ext
  have hCl : C.2.1.length = ls.length := by rw [← hC]; unfold collectT; exact visitsT_len _ _
  have hs2n := o11.len1
  rw [uv_length] at hs2n
  have hdn := od13.len1; have hyn := oy.len1
  rw [uv_length, hCl] at hdn hyn
  refine ⟨_, rfl, fun h => absurd rfl h, fun _ => ?_⟩
  refine ⟨fun i w' => ∃ k : Nat, i = (k : Nat) ∧ k ≤ ls.length ∧ Ext w13 w', fun i _ => (ls.length - i).toNat, ⟨0, rfl, Nat.zero_le _, x1315⟩, ?_⟩
  rintro _ i w16 ⟨k, rfl, hk, x16⟩
  refine ⟨fun hlt => ?_, fun hge => ?_⟩
  · obtain ⟨p1, y1, hp1, hy1, hc1'⟩ := (od13.ext x16).rd.word k (by omega)
    obtain ⟨p2, y2, hp2, hy2, hc2'⟩ := (oy.ext x16).rd.word k (by omega)
    rw [hy1] at hy2; injection hy2 with hy2; subst hy2
    rw [Nat.mul_one] at hc1' hc2'
    have ei : IntKind.i64.wrap ((k : Int) + 1) = ((k + 1 : Nat) : Int) := by rw [wrap_i64 (by omega) (by omega)]; omega
    rw [ei]
    exact ⟨_, rfl, sd, (d13.ext x16).cell 0, by omega, by omega, p1, hp1, _, by rw [Int.toNat_natCast]; exact hc1', by omega, by omega, p2, hp2, _, by rw [Int.toNat_natCast]; exact hc2', fun w17 q17 => ⟨fun h => absurd rfl h, fun _ => ⟨⟨k + 1, rfl, by omega, x16.trans q17.ext⟩, by dsimp only; omega⟩⟩⟩
  refine ⟨fun i w' => ∃ k : Nat, i = (k : Nat) ∧ k ≤ C.1.ws.length ∧ Ext w13 w', fun i _ => (C.1.ws.length - i).toNat, ⟨0, rfl, Nat.zero_le _, x16⟩, ?_⟩
  rintro _ i w17 ⟨k, rfl, hk, x17⟩
  have hn17 := a13.ok.n; have hl17 := a13.ok.len
  refine ⟨_, rfl, ⟨some ⟨b2, 0, none⟩, C.1.ws.length, C.1.ws.length⟩, (r13.ext x17).hd.cell 1, fun hlt => ⟨(word_spec (a13.ext x17) (k : Int)).mono ?_⟩, fun hge => x013.trans x17⟩
  rintro e w18 ⟨rfl, rfl⟩
  dsimp only at hlt
  have e1 : wordO C.1 (k : Int) = (C.1.ws.getD k 0, true) := by unfold wordO; rw [if_pos (by omega), Int.toNat_natCast]
  rw [e1]
  have hwk : C.1.ws[k]? = some (C.1.ws.getD k 0) := by rw [List.getD_eq_getElem?_getD, List.getElem?_eq_getElem (by omega)]; rfl
  have ei : IntKind.i64.wrap ((k : Int) + 1) = ((k + 1 : Nat) : Int) := by rw [wrap_i64 (by omega) (by omega)]; omega
  rw [ei]
  refine ⟨_, _, rfl, _, rfl, ⟨some ⟨b2, 0, none⟩, C.1.ws.length, C.1.ws.length⟩, (r13.ext x17).hd.cell 1, by omega, hlt, _, rfl, ((C.1.ws.getD k 0 : Nat) : Int), ?_, fun h => absurd rfl h, fun _ => ⟨⟨k + 1, rfl, by omega, x17⟩, by dsimp only; omega⟩⟩
  rw [Int.toNat_natCast, add_mk, Nat.zero_add, (r13.ext x17).ws.cell]
  unfold uv
  rw [List.getElem?_map, hwk]; rfl
end Go.Proofs.Ytgbpglfieellpaa.V
