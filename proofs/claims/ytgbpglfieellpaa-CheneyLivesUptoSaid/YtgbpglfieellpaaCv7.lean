/-
  Law CheneyLives: the walk.
-/
import Derived.Test.YtgbpglfieellpaaCv6
namespace Go.Proofs.Ytgbpglfieellpaa.V
open Go Go.RowKit
set_option linter.unusedVariables false
set_option linter.unusedSimpArgs false
set_option maxRecDepth 100000

theorem cheneylives_walk (w : World) (v0 v1 v2 v3 v4 : Value) (x0 : (Par.one (.sl 64 ThR)).T) (x1 : (Par.one (.sl 8 (.cons (.int .i64) .nil))).T) (x2 x3 : Int) (x4 : Bool) (h0 : (Par.one (.sl 64 ThR)).Is w v0 x0)
    (h1 : (Par.one (.sl 8 (.cons (.int .i64) .nil))).Is w v1 x1) (h2 : (Par.one (.int .i64)).Is w v2 x2) (h3 : (Par.one (.int .i64)).Is w v3 x3) (h4 : (Par.one .bool).Is w v4 x4) :
    Calls Try.prog 6 #[v0, v1, v2, v3, v4] w fun e w' => e = .returned (.bool true) ∧ Ext w w' := by
  obtain ⟨rfl, hc, hm, ts0, hts0⟩ := ths_is h0
  obtain ⟨rfl, hc1, hm1, _, rs, hrs, hrb⟩ := is_ints h1
  obtain ⟨rfl, r2⟩ := h2
  obtain ⟨rfl, r3⟩ := h3
  obtain rfl : v4 = .bool x4 := h4
  have r2 := wf_i64 r2; have r3 := wf_i64 r3
  obtain ⟨things, ls⟩ := x0
  obtain ⟨roots, ls1⟩ := x1
  dsimp only at *
  have hrsn := hrs.leni
  refine vc_6 things roots x2 x3 x4 _ _ ?_
  simp only [eq_self, false_or, or_false, true_and, and_true, decide_eq_true_eq, decide_eq_false_iff_not, gd_st, gd_sf, exists_eq_left', exists_eq_left, Option.some.injEq, Sl.eta, Nat.reduceLeDiff, Int.reduceLE, Int.reduceLT, Int.reduceEq, Int.reduceNe, Nat.reduceMul, Nat.reduceAdd, Nat.reduceSub, Int.toNat_natCast, beq_iff_eq, bne_iff_ne, beq_eq_false_iff_ne, bne_eq_false_iff_eq, pick_and, pick_or, Bool.and_eq_true, Bool.or_eq_true, Bool.and_eq_false_iff, Bool.or_eq_false_iff, ne_eq, not_false_eq_true, Bool.not_eq_true', Bool.not_eq_false', reduceCtorEq, Nat.le_refl, Nat.zero_mul, Nat.mul_one, Nat.zero_add, Int.reduceToNat, ones, one, add_mk, Decidable.not_not, cond_true, cond_false, true_implies, false_implies, implies_true, Bool.not_true, Bool.not_false]
  refine ⟨(shown_spec w).mono ?_⟩
  rintro e w1 ⟨rfl, x01⟩
  refine ⟨_, rfl, fun s' w' => w' = w1 ∧ ∃ ts, ThsIs w s' ts ∧ ts.length ≤ 300, ⟨fun h => ⟨by omega, rfl, ts0.take 300, hts0.cut (by omega), by rw [List.length_take]; omega⟩, fun h => ⟨rfl, ts0, hts0, by have := hts0.n; omega⟩⟩, ?_⟩
  rintro _ s w2 ⟨rfl, ts, hts, hN⟩
  have hsn := hts.n
  refine ⟨(room_spec hts x01 (by omega)).mono ?_⟩
  rintro e w3 ⟨rfl, x23⟩
  have hr := roomT_le ts
  refine ⟨_, rfl, ⟨(pick_spec x3 100 w3 r3.1 r3.2 (by decide)).mono ?_⟩⟩
  rintro e w4 ⟨rfl, rfl⟩
  have hpk := pk_lt (c := x3) (n := 100) (by decide)
  obtain ⟨sp, hsp⟩ : ∃ sp : Nat, pk x3 100 = sp := ⟨(pk x3 100).toNat, by omega⟩
  rw [hsp] at hpk ⊢
  have ew : IntKind.i64.wrap (((roomT ts : Nat) : Int) + (sp : Int)) = ((roomT ts + sp : Nat) : Int) := by rw [wrap_i64 (by omega) (by omega)]; omega
  refine ⟨_, rfl, ?_⟩
  rw [ew]
  have x04 := x01.trans x23
  refine ⟨(new_spec (by omega) _).mono ?_⟩
  rintro e w5 ⟨x45, ⟨hno, _⟩ | ⟨n, b, g, hk, hn', rfl, hb, hg, a5⟩⟩
  · omega
  have hn : n = roomT ts + sp := by omega
  have x05 := x04.trans x45
  have z4 := x04.size; have z5 := x45.size
  have hb5 := a5.ws.lt; have hg5 := a5.hd.lt
  refine ⟨_, _, rfl, fun _ => ⟨fun _ => ⟨fun h => absurd rfl h, fun _ => ⟨(laid_spec hts x05 (by omega) a5 rfl (by show 0 - 0 + roomT ts ≤ n; omega) ⟨by omega, by omega⟩).mono ?_⟩⟩, fun h => (by cases h)⟩, fun h => (by cases h)⟩
  rintro e w6 ⟨sr, A6, pr, rfl, hpr, o6, a6, L6, u6⟩
  have hL : Laid (tsT ts) ts.length n 0 (List.range ts.length) (fun m => 0 + posR ts m) A6 := L6.done a5.ok (by show roomT ts ≤ n; omega)
  have x06 : Ext w w6 := x05.fresh u6 (by rintro k (rfl | rfl) <;> omega)
  have z6 := u6.size
  have hrn := o6.len1
  rw [uv_length, List.length_map, List.length_range] at hrn
  refine ⟨_, rfl, fun _ => ⟨fun h => by omega, fun _ => ?_⟩, fun h => (by rw [hpr] at h; cases h)⟩
  refine ⟨fun s4 w' => ∃ fr : List Nat, Own w' w5.heap.size 3 1 s4 (nv fr) ∧ (∀ j ∈ fr, j < ts.length) ∧ fr.length ≤ rs.length ∧ Ext w6 w', ?_, ?_⟩
  · refine ⟨fun s4 i w' => ∃ fr : List Nat, i = (fr.length : Nat) ∧ fr.length ≤ rs.length ∧ (∀ j ∈ fr, j < ts.length) ∧ Own w' w6.heap.size 3 1 s4 (nv fr) ∧ Ext w6 w', fun _ i _ => (rs.length - i).toNat,
      ⟨[], rfl, Nat.zero_le _, fun j h => (by cases h), .nil .., Ext.refl _⟩, ?_⟩
    rintro _ s4 i w7 ⟨fr, rfl, hfr, hj, o7, x7⟩
    have z7 := x7.size
    refine ⟨fun hlt => ⟨fun h0 => ?_, fun h0 => ⟨fr, o7.mono (by omega), hj, hfr, x7⟩⟩, fun hge => ⟨fr, o7.mono (by omega), hj, hfr, x7⟩⟩
    obtain ⟨p, y, hp, hy, hcy⟩ := (hrs.ext (x06.trans x7)).intl fr.length (by omega)
    rw [Nat.mul_one] at hcy
    have hyb := hrb y (List.mem_of_getElem? hy)
    refine ⟨by omega, by omega, p, hp, y, by rw [Int.toNat_natCast]; exact hcy, ⟨(pick_spec y (s.n : Int) w7 hyb.1 hyb.2 (by omega)).mono ?_⟩⟩
    rintro e w8 ⟨rfl, rfl⟩
    have hpk := pk_lt (c := y) (n := (s.n : Int)) (by omega)
    obtain ⟨j, hjj⟩ : ∃ j : Nat, pk y (s.n : Int) = j := ⟨(pk y (s.n : Int)).toNat, by omega⟩
    rw [hjj] at hpk ⊢
    refine ⟨_, rfl, fun w9 n9 => ?_⟩
    have z9 := n9.size
    have h7n := o7.len1
    rw [nv_length] at h7n
    obtain ⟨s4', w10, hr10, hn10, o10, u10, c10⟩ := (o7.ext n9.ext).append (t := 32) (ty := 32) tab_ok (by rfl) (by rfl) (by decide) (x := ⟨some ⟨w8.heap.size, 0, none⟩, 1, 1⟩) (news := nv [j]) ((Blk.new n9).rd (z := 1) (o := 0) (n := 1) (c := 1) (by simp)) (nv_ones _) (by dsimp only; omega) (by dsimp only; omega) (by omega)
    have hS : ∀ k, (∃ p, s4.a = some p ∧ k = p.block) → w6.heap.size ≤ k := by rintro k ⟨q', hq', rfl⟩; exact (o7.base q' hq').1
    have e1 : IntKind.i64.wrap (((fr.length : Nat) : Int) + 1) = (((fr ++ [j]).length : Nat) : Int) := by rw [wrap_i64 (by omega) (by omega), List.length_append]; simp
    rw [e1]
    refine ⟨s4', w10, hr10, ⟨fr ++ [j], rfl, by rw [List.length_append]; simp; omega, fun k hk => ?_, by rw [nv_append]; exact o10, (x7.trans n9.ext).fresh u10 hS⟩, by rw [List.length_append]; dsimp only [List.length]; omega⟩
    rcases List.mem_append.1 hk with hk | hk
    · exact hj k hk
    · rw [List.mem_singleton.1 hk]; omega
  rintro _ s4 w7 ⟨fr0, o7, hj0, hfr0, x67⟩
  have x07 := x06.trans x67
  refine ⟨fun s3 s4 i w' => ∃ tn : Nat, i = (tn : Nat) ∧ tn ≤ 3 ∧ Lv w' w5.heap.size b g n ts tn s3 s4 ∧ Ext w w' ∧ w5.heap.size ≤ w'.heap.size, fun _ _ i _ => (3 - i).toNat,
    ⟨0, rfl, Nat.zero_le _, ⟨_, _, _, _, fr0, a6.ext x67, hL, o6.ext x67, by simp, fun j hj => by rw [List.getElem?_map, List.getElem?_range (List.mem_range.1 hj)]; rfl, o7, fun j hj => ⟨List.mem_range.2 (hj0 j hj), hj0 j hj⟩, by omega⟩, x07, by have := x67.size; omega⟩, ?_⟩
  rintro _ s3 s4 i w8 ⟨tn, rfl, htn, hLv, x08, hw58⟩
  refine ⟨fun hlt => ?_, fun hge => x08⟩
  have htn3 : tn < 3 := by omega
  obtain ⟨order, p, A, refL, fr1, a8, L8, o3, hrl, href, o4, hfr1, hfl1⟩ := hLv
  have z8 := x08.size
  have h4n := o4.len1
  rw [nv_length] at h4n
  have h3n := o3.len1
  rw [uv_length] at h3n
  refine ⟨fun s5 w' => w' = w8 ∧ ∃ fr, Own w8 w5.heap.size 3 1 s5 (nv fr) ∧ (∀ j ∈ fr, j ∈ order ∧ j < ts.length) ∧ fr.length ≤ 17592186043905, ⟨fun h2 => ⟨?_⟩, fun h2 => ⟨rfl, fr1, o4, hfr1, hfl1⟩⟩, ?_⟩
  · have ef : IntKind.i64.wrap ((s4.n : Int) + 1) = ((s4.n : Int) + 1) := wrap_i64 (by omega) (by omega)
    rw [ef]
    refine (pick_spec x2 ((s4.n : Int) + 1) w8 r2.1 r2.2 (by omega)).mono ?_
    rintro e w9 ⟨rfl, rfl⟩
    have hpk := pk_lt (c := x2) (n := (s4.n : Int) + 1) (by omega)
    obtain ⟨k, hk'⟩ : ∃ k : Nat, pk x2 ((s4.n : Int) + 1) = k := ⟨(pk x2 ((s4.n : Int) + 1)).toNat, by omega⟩
    rw [hk'] at hpk ⊢
    have hcap := o4.cap
    refine ⟨_, rfl, by omega, by omega, rfl, fr1.take k, ?_, fun j hj => hfr1 j (List.mem_of_mem_take hj), by rw [List.length_take]; omega⟩
    rw [cut0, Int.toNat_natCast]
    have := o4.short (m := k) (by omega)
    have er : (nv fr1).take (k * 1) = nv (fr1.take k) := by rw [Nat.mul_one]; simp [nv, List.map_take]
    rw [er] at this
    exact this
  rintro _ s5 w9 ⟨rfl, fr, o5, hfr, hfl⟩
  have h5n := o5.len1
  rw [nv_length] at h5n
  refine ⟨(met_spec hts x08 (by omega) o5.rd (fun j hj => (hfr j hj).2) (by omega)).mono ?_⟩
  rintro e w10 ⟨so, Q, rfl, hw, hF, oQ, x10⟩
  have z10 := x10.size
  have hson := oQ.len1
  rw [nv_length] at hson
  have hFl := hF.len
  -- the roots
  refine ⟨_, rfl, fun s7 i w' => ∃ k : Nat, i = (k : Nat) ∧ k ≤ fr.length ∧ Own w' w10.heap.size 23 1 s7 (uv ((fr.take k).map fun j => p j + 1)) ∧ Ext w10 w', fun _ i _ => (fr.length - i).toNat, ⟨0, rfl, Nat.zero_le _, .nil .., Ext.refl _⟩, ?_⟩
  rintro _ s7 i w11 ⟨k, rfl, hk, o11, x11⟩
  have z11 := x11.size
  have o5' := (o5.ext x10).ext x11
  have o3' := (o3.ext x10).ext x11
  refine ⟨fun hlt => ?_, fun hge => ?_⟩
  · obtain ⟨p1, j, hp1, hj, hcj⟩ := o5'.rd.nat k (by omega)
    obtain ⟨hjo, hjN⟩ := hfr j (List.mem_of_getElem? hj)
    have hrj := href j hjo
    obtain ⟨p2, y2, hp2, hy2, hc2⟩ := o3'.rd.word j (by omega)
    rw [hrj] at hy2
    injection hy2 with hy2; subst hy2
    rw [Nat.mul_one] at hc2
    refine ⟨by omega, by omega, p1, hp1, _, hcj, by omega, by omega, p2, hp2, _, by rw [Int.toNat_natCast]; exact hc2, fun w12 n12 => ?_⟩
    have z12 := n12.size
    have h11n := o11.len1
    rw [uv_length, List.length_map, List.length_take] at h11n
    obtain ⟨s7', w13, hr13, hn13, o13, u13, c13⟩ := (o11.ext n12.ext).append (t := 30) (ty := 30) tab_ok (by rfl) (by rfl) (by decide) (x := ⟨some ⟨w11.heap.size, 0, none⟩, 1, 1⟩) (news := uv [p j + 1]) ((Blk.new n12).rd (z := 1) (o := 0) (n := 1) (c := 1) (by simp)) (uv_ones _) (by dsimp only; omega) (by dsimp only; omega) (by omega)
    have ei : IntKind.i64.wrap ((k : Int) + 1) = ((k + 1 : Nat) : Int) := by rw [wrap_i64 (by omega) (by omega)]; omega
    rw [ei]
    refine ⟨s7', w13, hr13, ⟨k + 1, rfl, by omega, by rw [take_snoc hj, List.map_append, uv_append]; exact o13, (x11.trans n12.ext).fresh u13 (by rintro i ⟨q', hq', rfl⟩; exact (o11.base q' hq').1)⟩, by dsimp only; omega⟩
  rw [List.take_of_length_le (by omega)] at o11
  have x811 := x10.trans x11
  have x011 := x08.trans x811
  have a11 := a8.ext x811
  refine ⟨fun a w' => ∃ D s c0 c1 c2 A', a = some ⟨D, 0, none⟩ ∧ DoneB w' D s (szQ (tsT ts) Q : Nat) 0 1 (cloV c0 c1 c2) ∧ Own w' w11.heap.size 23 1 s (uv (fr.map fun j => pNew (tsT ts) (fTn (tn + 1) n) Q j + 1)) ∧ ArW 76 w' b g A' ∧
      Laid (tsT ts) ts.length n (fTn (tn + 1) n) Q (pNew (tsT ts) (fTn (tn + 1) n) Q) A' ∧ A'.use.e = fTn (tn + 1) n + szQ (tsT ts) Q ∧ (x4 = true → ∀ a, fTn tn n ≤ a → a < fTn tn n + n → A'.ws[a]? = some 0) ∧ w11.heap.size ≤ D ∧ Upd (fun k => k = b ∨ k = g) w11 w', ⟨?_⟩, ?_⟩
  · refine (visited_laid a11 L8 (roots := fr.map some) (by rw [rvs]; exact o11.rd) (by
      intro o ho j hj
      obtain ⟨k, hk, rfl⟩ := List.mem_map.1 ho
      injection hj with hj; subst hj; exact (hfr k hk).1) (by rw [List.length_map]; omega) x4).mono ?_
    rintro e w12 ⟨s', c0, c1, c2, Q', A', rfl, hw', hQ', o12, a12, L12, hue, hz, hrest, v12, hc0, u12⟩
    have z12 := u12.size
    obtain rfl := hw'.uniq hw
    rw [fTn_next] at L12 hue o12
    rw [rvs] at o12
    refine ⟨_, _, _, _, .inr ⟨_, _, _, rfl, fun w13 n13 => ⟨rfl, (Blk.new n13).canSetN 0 5 (by simp), fun w14 s14 => ?_⟩⟩⟩
    obtain ⟨D14, x14, _⟩ := DoneB.made n13 s14
    exact ⟨_, s', c0, c1, c2, A', rfl, D14, o12.ext x14, a12.ext x14, L12, hue, hz, z12, u12.trans x14 fun _ _ hn => ⟨hn, not_false⟩⟩
  rintro _ a w12 ⟨D, sd, c0, c1, c2, A', rfl, d12, o12, a12, L12, hue, hz, hD, u12⟩
  have z12 := u12.size
  have hd12 := d12.lt
  have x012 : Ext w w12 := x011.fresh u12 (by rintro k (rfl | rfl) <;> omega)
  obtain ⟨f', hf'⟩ : ∃ f', fTn (tn + 1) n = f' := ⟨_, rfl⟩
  have hfn : f' = if tn % 2 = 0 then n else 0 := by rw [← hf']; unfold fTn; split <;> split <;> omega
  rw [hf'] at o12 L12 hue
  refine ⟨fun at_ w' => w' = w12 ∧ at_ = (f' : Nat), ⟨fun ht => ⟨(words_spec a12).mono ?_⟩, fun ht => ⟨rfl, ?_⟩⟩, ?_⟩
  · rintro e w13 ⟨rfl, rfl⟩
    rw [tmod2 htn3] at ht
    refine ⟨_, rfl, rfl, ?_⟩
    rw [wrap_u64 (by omega) (by have := L12.nn; omega), L12.nn, hfn, if_pos (by omega)]
  · rw [tmod2 htn3] at ht
    rw [hfn, if_neg (by omega)]; rfl
  rintro _ at_ w13 ⟨rfl, rfl⟩
  refine ⟨⟨by omega, by omega, by omega, by omega⟩, fun w14 n14 => ?_⟩
  have z14 := n14.size
  have b14 := Blk.new n14
  rw [zrow_one, uv_zeros, ← hsn, toRow_zero ts.length (tsT ts) f' Q] at b14
  have hui := L12.ok.useIn; have hu1 := L12.ok.use1; have hnn := L12.nn
  -- what is live
  refine ⟨fun s8 i w' => ∃ k : Nat, i = (k : Nat) ∧ k ≤ Q.length ∧ LiveR w w' w14.heap.size s8 ((Q.take k).map (tsT ts)) ∧ Blk w' w13.heap.size 23 (uv (toRow ts.length (tsT ts) f' Q k)) ∧ Ext w13 w', fun _ i _ => (Q.length - i).toNat, ⟨0, rfl, Nat.zero_le _, .nil .., b14, n14.ext⟩, ?_⟩
  rintro _ s8 i w15 ⟨k, rfl, hk, l15, b15, x15⟩
  have z15 := x15.size
  have hlt15 := b15.lt
  have oQ15 := (((oQ.ext x11).upd u12 (fun q hq e => by have := oQ.base q hq; omega)).ext x15)
  refine ⟨fun hlt w16 q16 => ?_, fun hge => ?_⟩
  · have x16 := x15.trans q16.ext
    have z16 := q16.ext.size
    have oQ16 := oQ15.ext q16.ext
    obtain ⟨p1, j, hp1, hj, hcj⟩ := oQ16.rd.nat k (by omega)
    have hjN := hF.lt j (List.mem_of_getElem? hj)
    have cj : ∀ {v : World}, Ext w16 v → v.cell? (p1.add k) = some (.int .i64 (j : Nat)) := fun x' => by
      obtain ⟨p', y', hp', hy', hc'⟩ := (oQ16.ext x').rd.nat k (by omega)
      rw [hp1] at hp'; injection hp' with hp'; subst hp'
      rw [hj] at hy'; injection hy' with hy'; subst hy'
      exact hc'
    have l16 := l15.upd q16.ext (fun k hk => hk.elim)
    refine ⟨fun _ => False, by omega, by omega, p1, hp1, ((j : Nat) : Int), fun v u => by rw [Int.toNat_natCast]; exact cj u, ⟨(room_spec (l16.is (x012.trans x16)) (Ext.refl _) (by rw [List.length_map, List.length_take]; omega)).mono ?_⟩⟩
    rintro e w17 ⟨rfl, x17⟩
    have z17 := x17.size
    have b17 := (b15.ext q16.ext).ext x17
    refine ⟨_, rfl, x17, by omega, by omega, b17.canSet _ (by rw [uv_length, toRow_len]; omega), fun w18 s18 => ?_⟩
    have z18 := s18.size
    have hle := posQ_le (tsT ts) Q (k + 1)
    rw [posQ_succ hj] at hle
    have eR : roomT ((Q.take k).map (tsT ts)) = posQ (tsT ts) Q k := by rw [roomT_map]; rfl
    have eP : pNew (tsT ts) f' Q j = f' + posQ (tsT ts) Q k := by unfold pNew; rw [idxOf_at hF.nd hj]
    have ev : IntKind.u64.wrap (IntKind.u64.wrap ((f' : Int) + IntKind.u64.wrap ((roomT ((Q.take k).map (tsT ts)) : Nat) : Int)) + 1) = ((pNew (tsT ts) f' Q j + 1 : Nat) : Int) := by
      rw [eR, eP, wrap_u64 (n := ((posQ (tsT ts) Q k : Nat) : Int)) (by omega) (by omega), wrap_u64 (n := (f' : Int) + ((posQ (tsT ts) Q k : Nat) : Int)) (by omega) (by omega), wrap_u64 (by omega) (by omega)]
      omega
    rw [ev] at s18
    have b18 := s18.blk1 b17
    rw [Int.toNat_natCast, uv_set, toRow_set hjN hj] at b18
    have u18 : Upd (fun i => i = w13.heap.size) w17 w18 := s18.upd
    have x1318 : Ext w13 w18 := (x16.trans x17).fresh u18 (by rintro i rfl; exact Nat.le_refl _)
    have x018 := x012.trans x1318
    have oQ18 := (oQ16.ext x17).upd u18 (fun q hq e => by have := oQ.base q hq; omega)
    obtain ⟨p1', j', hp1', hj', hcj'⟩ := oQ18.rd.nat k (by omega)
    rw [hp1] at hp1'; injection hp1' with hp1'; subst hp1'
    rw [hj] at hj'; injection hj' with hj'; subst hj'
    obtain ⟨t, ht⟩ : ∃ t, ts[j]? = some t := ⟨_, List.getElem?_eq_getElem hjN⟩
    obtain ⟨q, c, m, hq, htri, hcs⟩ := hts.tri (Ext.refl _) ht
    refine ⟨by omega, by omega, p1, hp1, _, by rw [Int.toNat_natCast]; exact hcj', by omega, by omega, q, hq, t.K, t.T, c, m, rfl, by rw [Int.toNat_natCast]; exact hcs w18 x018, rfl, fun w19 n19 => ?_⟩
    have l18 := (l16.upd x17 (fun k hk => hk.elim)).upd u18 (by rintro k rfl; left; omega)
    obtain ⟨s9, w20, hr20, l20, u20, hlo⟩ := l18.push (by omega) htri (by rw [List.length_map, List.length_take]; omega) n19
    have ei : IntKind.i64.wrap ((k : Int) + 1) = ((k + 1 : Nat) : Int) := by rw [wrap_i64 (by omega) (by omega)]; omega
    rw [ei]
    refine ⟨s9, w20, hr20, ⟨k + 1, rfl, by omega, ?_, b18.upd u20 (fun ⟨p, hp, e⟩ => by have := hlo p hp; omega), x1318.fresh u20 (by rintro k ⟨p, hp, rfl⟩; have := hlo p hp; omega)⟩, by dsimp only; omega⟩
    rw [take_snoc hj, List.map_append, List.map_cons, List.map_nil, tsT_at ht]
    exact l20
  obtain rfl : k = Q.length := by omega
  rw [List.take_of_length_le (Nat.le_refl _)] at l15
  have hjQ : ∀ j ∈ fr, j ∈ Q := fun j hj => by
    obtain ⟨r, hr⟩ := hw.pre
    rw [hr]
    refine List.mem_append_left _ ((fold_mem _ _ _).2 (.inr (List.mem_map.2 ⟨j, hj, rfl⟩)))
  have hto : ∀ j ∈ Q, (toRow ts.length (tsT ts) f' Q Q.length)[j]? = some (pNew (tsT ts) f' Q j + 1) := fun j hj => toRow_at (hF.lt j hj) (by rw [List.take_of_length_le (Nat.le_refl _)]; exact hj)
  have o515 := ((o5'.upd u12 (fun q hq e => by have := o5.base q hq; omega)).ext x15)
  have od15 := o12.ext x15
  have hdn := od15.len1
  rw [uv_length, List.length_map] at hdn
  have d15 := d12.ext x15
  refine ⟨fun i w' => ∃ k : Nat, i = (k : Nat) ∧ k ≤ fr.length ∧ Ext w15 w', fun i _ => (fr.length - i).toNat, ⟨0, rfl, Nat.zero_le _, Ext.refl _⟩, ?_⟩
  rintro _ i w16 ⟨k, rfl, hk, x16⟩
  refine ⟨fun hlt => ?_, fun hge => ?_⟩
  · obtain ⟨p1, j, hp1, hj, hcj⟩ := (o515.ext x16).rd.nat k (by omega)
    have hjm := List.mem_of_getElem? hj
    have hjN := hF.lt j (hjQ j hjm)
    obtain ⟨p2, y2, hp2, hy2, hc2⟩ := (od15.ext x16).rd.word k (by omega)
    rw [List.getElem?_map, hj] at hy2
    injection hy2 with hy2; subst hy2
    rw [Nat.mul_one] at hc2
    have b16 := b15.ext x16
    have hcell : w16.cell? ⟨w13.heap.size, j, none⟩ = some (.int .u64 ((pNew (tsT ts) f' Q j + 1 : Nat) : Int)) := by
      rw [b16.cell]
      unfold uv
      rw [List.getElem?_map, hto j (hjQ j hjm)]; rfl
    have ei : IntKind.i64.wrap ((k : Int) + 1) = ((k + 1 : Nat) : Int) := by rw [wrap_i64 (by omega) (by omega)]; omega
    rw [ei]
    exact ⟨_, rfl, sd, (d15.ext x16).cell 0, by omega, by omega, p2, hp2, _, by rw [Int.toNat_natCast]; exact hc2, by omega, by omega, p1, hp1, _, by rw [Int.toNat_natCast]; exact hcj, by omega, by omega, _, by rw [Int.toNat_natCast]; exact hcell, fun w17 q17 => ⟨fun h => absurd rfl h, fun _ => ⟨⟨k + 1, rfl, by omega, x16.trans q17.ext⟩, by dsimp only; omega⟩⟩⟩
  have x1316 := x15.trans x16
  have x016 := x012.trans x1316
  have b16 := b15.ext x16
  have rd16 : Rd w16 1 ⟨some ⟨w13.heap.size, 0, none⟩, s.n, s.n⟩ (uv (toRow ts.length (tsT ts) f' Q Q.length)) := by
    have := b16.words
    rw [toRow_len] at this
    rw [← hsn]; exact this
  refine ⟨(alike_spec hts x016 (by omega) (a12.ext x1316) L12 hue hF (oQ15.ext x16).rd rd16 (toRow_len ..) hto).mono ?_⟩
  rintro e w17 ⟨rfl, x17⟩
  have x1317 := x1316.trans x17
  refine ⟨_, rfl, ⟨(check_spec (a12.ext x1317)).mono ?_⟩⟩
  rintro e w18 ⟨rfl, x18⟩
  rw [L12.check hue]
  refine ⟨_, _, rfl, fun w19 q19 => ?_⟩
  have x1319 := (x1317.trans x18).trans q19.ext
  have x019 := x012.trans x1319
  have d19 := d12.ext x1319
  have l19 := (((l15.upd x16 (fun k hk => hk.elim)).upd x17 (fun k hk => hk.elim)).upd x18 (fun k hk => hk.elim)).upd q19.ext (fun k hk => hk.elim)
  refine ⟨fun _ => False, _, rfl, _, fun v u => (d19.ext u).cell 2, fun _ => ⟨_, rfl, _, fun v u => (d19.ext u).cell 3, fun _ => ⟨_, rfl, _, fun v u => (d19.ext u).cell 1, ⟨(room_spec (l19.is x019) (Ext.refl _) (by rw [List.length_map]; omega)).mono ?_⟩⟩, fun h => absurd rfl h⟩, fun h => absurd rfl h⟩
  rintro e w20 ⟨rfl, x20⟩
  rw [roomT_map]
  have x1320 := x1319.trans x20
  have d20 := d12.ext x1320
  refine ⟨_, rfl, x20, fun _ => ⟨_, rfl, _, fun v u => (d20.ext u).cell 1, ⟨(used_spec (a12.ext x1320)).mono ?_⟩⟩, fun h => absurd rfl h⟩
  rintro e w21 ⟨rfl, q21⟩
  have eU : A'.use.e - A'.use.f = szQ (tsT ts) Q := by rw [hue, L12.uf]; omega
  rw [eU]
  have x1321 := x1320.trans q21.ext
  refine ⟨_, rfl, q21.ext, fun _ => ⟨fun _ => ⟨fun _ => ⟨fun h => absurd rfl h, fun _ => ⟨(words_spec (a12.ext x1321)).mono ?_⟩⟩, fun h => absurd rfl h⟩, fun h => (by cases h)⟩, fun h => absurd rfl h⟩
  rintro e w22 ⟨rfl, rfl⟩
  rw [hnn]
  have hff : n - f' = fTn tn n := by rw [hfn]; unfold fTn; split <;> omega
  have hfle : f' ≤ n := by rw [hfn]; split <;> omega
  have ei : IntKind.i64.wrap (IntKind.u64.wrap (IntKind.u64.wrap ((n : Nat) : Int) - ((f' : Nat) : Int))) = ((fTn tn n : Nat) : Int) := by
    rw [wrap_u64 (n := ((n : Nat) : Int)) (by omega) (by omega), wrap_u64 (by omega) (by omega), wrap_i64 (by omega) (by omega)]; omega
  refine ⟨_, rfl, ?_⟩
  rw [ei]
  refine ⟨(word_spec (a12.ext x1321) _).mono ?_⟩
  rintro e w23 ⟨rfl, rfl⟩
  have e3 : IntKind.i64.wrap ((tn : Int) + 1) = ((tn + 1 : Nat) : Int) := by rw [wrap_i64 (by omega) (by omega)]; omega
  rw [e3]
  have go : (∃ tn' : Nat, ((tn + 1 : Nat) : Int) = (tn' : Nat) ∧ tn' ≤ 3 ∧ Lv w23 w5.heap.size b g n ts tn' ⟨some ⟨w13.heap.size, 0, none⟩, s.n, s.n⟩ s5 ∧ Ext w w23 ∧ w5.heap.size ≤ w23.heap.size) ∧ ((3 : Int) - ((tn + 1 : Nat) : Int)).toNat < ((3 : Int) - ((tn : Nat) : Int)).toNat := by
    refine ⟨⟨tn + 1, rfl, by omega, ⟨Q, pNew (tsT ts) f' Q, A', toRow ts.length (tsT ts) f' Q Q.length, fr, a12.ext x1321, by rw [hf']; exact L12, ?_, toRow_len .., hto, ?_, fun j hj => ⟨hjQ j hj, (hfr j hj).2⟩, hfl⟩, x012.trans x1321, by have := x1321.size; omega⟩, by omega⟩
    · have b23 := b14.lt
      have := Own.of_blk (z := 1) (s := ⟨some ⟨w13.heap.size, 0, none⟩, s.n, s.n⟩) (b16.ext (((x17.trans x18).trans q19.ext).trans (x20.trans q21.ext))) (B := w5.heap.size) (by omega) rfl (Nat.le_refl _) (by unfold maxLen; simp; omega) (by rw [uv_length, toRow_len]; show ts.length = s.n * 1; omega)
      rw [List.take_of_length_le (by rw [uv_length, toRow_len]; dsimp only; omega)] at this
      exact this
    · exact (o515.ext x16).ext (((x17.trans x18).trans q19.ext).trans (x20.trans q21.ext))
  refine ⟨_, _, rfl, fun hz4 => ⟨fun hth => ⟨fun hne => ?_, fun _ => go⟩, fun _ => go⟩, fun _ => go⟩
  have hAl : A'.ws.length = 2 * n := by rw [L12.ok.len, hnn]
  unfold wordO at hth hne
  by_cases hin : 0 ≤ ((fTn tn n : Nat) : Int) ∧ ((fTn tn n : Nat) : Int) < A'.ws.length
  · rw [if_pos hin] at hne
    rw [Int.toNat_natCast] at hne
    have hlt' : fTn tn n < fTn tn n + n := by
      have : 0 < n := by omega
      omega
    have := hz hz4 (fTn tn n) (Nat.le_refl _) hlt'
    exfalso
    apply hne
    dsimp only
    rw [List.getD_eq_getElem?_getD, this]; rfl
  · rw [if_neg hin] at hth
    cases hth
end Go.Proofs.Ytgbpglfieellpaa.V
