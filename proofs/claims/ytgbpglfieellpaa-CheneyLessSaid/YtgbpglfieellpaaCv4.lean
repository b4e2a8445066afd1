/-
  Law CheneyLess: the walk.
-/
import Derived.Test.YtgbpglfieellpaaCv3
namespace Go.Proofs.Ytgbpglfieellpaa.V
open Go Go.RowKit
set_option linter.unusedVariables false
set_option linter.unusedSimpArgs false
set_option maxRecDepth 100000

theorem cheneyless_walk (w : World) (v0 v1 v2 v3 : Value) (x0 x1 : (Par.one (.sl 64 ThR)).T) (x2 : (Par.one (.sl 8 (.cons (.int .i64) .nil))).T) (x3 : Int) (h0 : (Par.one (.sl 64 ThR)).Is w v0 x0) (h1 : (Par.one (.sl 64 ThR)).Is w v1 x1)
    (h2 : (Par.one (.sl 8 (.cons (.int .i64) .nil))).Is w v2 x2) (h3 : (Par.one (.int .i64)).Is w v3 x3) :
    Calls Try.prog 4 #[v0, v1, v2, v3] w fun e w' => e = .returned (.bool true) ∧ Ext w w' := by
  obtain ⟨rfl, hc, hm, ts0, hts0⟩ := ths_is h0
  obtain ⟨rfl, hc1, hm1, ds0, hds0⟩ := ths_is h1
  obtain ⟨rfl, hc2, hm2, _, rs, hrs, hrb⟩ := is_ints h2
  obtain ⟨rfl, r3⟩ := h3
  have r3 := wf_i64 r3
  obtain ⟨things, ls⟩ := x0
  obtain ⟨dust, ls1⟩ := x1
  obtain ⟨roots, ls2⟩ := x2
  dsimp only at *
  have hrsn := hrs.leni
  refine vc_4 things dust roots x3 _ _ ?_
  simp only [eq_self, false_or, or_false, true_and, and_true, decide_eq_true_eq, decide_eq_false_iff_not, gd_st, gd_sf, exists_eq_left', exists_eq_left, Option.some.injEq, Sl.eta, Nat.reduceLeDiff, Int.reduceLE, Int.reduceLT, Int.reduceEq, Int.reduceNe, Nat.reduceMul, Nat.reduceAdd, Nat.reduceSub, Int.toNat_natCast, beq_iff_eq, bne_iff_ne, beq_eq_false_iff_ne, bne_eq_false_iff_eq, pick_and, pick_or, Bool.and_eq_true, Bool.or_eq_true, Bool.and_eq_false_iff, Bool.or_eq_false_iff, ne_eq, not_false_eq_true, Bool.not_eq_true', Bool.not_eq_false', reduceCtorEq, Nat.le_refl, Nat.zero_mul, Nat.mul_one, Nat.zero_add, Int.reduceToNat, ones, one, add_mk, Decidable.not_not, cond_true, cond_false, true_implies, false_implies, implies_true, Bool.not_true, Bool.not_false]
  refine ⟨(shown_spec w).mono ?_⟩
  rintro e w1 ⟨rfl, x01⟩
  refine ⟨_, rfl, fun s' w' => w' = w1 ∧ ∃ ts, ThsIs w s' ts ∧ ts.length ≤ 100, ⟨fun h => ⟨by omega, rfl, ts0.take 100, hts0.cut (by omega), by rw [List.length_take]; omega⟩, fun h => ⟨rfl, ts0, hts0, by have := hts0.n; omega⟩⟩, ?_⟩
  rintro _ s w2 ⟨rfl, ts, hts, hN⟩
  refine ⟨fun s' w' => w' = w2 ∧ ∃ ts, ThsIs w s' ts ∧ ts.length ≤ 50, ⟨fun h => ⟨by omega, rfl, ds0.take 50, hds0.cut (by omega), by rw [List.length_take]; omega⟩, fun h => ⟨rfl, ds0, hds0, by have := hds0.n; omega⟩⟩, ?_⟩
  rintro _ sd w3 ⟨rfl, ds, hds, hND⟩
  have hsn := hts.n; have hdn := hds.n
  refine ⟨(room_spec hts x01 (by omega)).mono ?_⟩
  rintro e w4 ⟨rfl, x34⟩
  refine ⟨_, rfl, ⟨(room_spec hds (x01.trans x34) (by omega)).mono ?_⟩⟩
  rintro e w5 ⟨rfl, x45⟩
  have hr := roomT_le ts; have hrd := roomT_le ds
  have ew : IntKind.i64.wrap (((roomT ts : Nat) : Int) + ((roomT ds : Nat) : Int)) = ((roomT ts + roomT ds : Nat) : Int) := by rw [wrap_i64 (by omega) (by omega)]; omega
  have ew2 : IntKind.i64.wrap (2 * ((roomT ts + roomT ds : Nat) : Int)) = ((2 * (roomT ts + roomT ds) : Nat) : Int) := by rw [wrap_i64 (by omega) (by omega)]; omega
  refine ⟨_, rfl, ?_⟩
  rw [ew, ew2]
  obtain ⟨n, hn⟩ : ∃ n, roomT ts + roomT ds = n := ⟨_, rfl⟩
  rw [hn]
  have x05 := (x01.trans x34).trans x45
  refine ⟨(new_spec (by omega) _).mono ?_⟩
  rintro e w6 ⟨x56, ⟨hno, _⟩ | ⟨n', b, g, hk, hn', rfl, hb, hg, a6⟩⟩
  · omega
  obtain rfl : n = n' := by omega
  refine ⟨_, _, rfl, ⟨(new_spec (by omega) _).mono ?_⟩⟩
  rintro e w7 ⟨x67, ⟨hno, _⟩ | ⟨n', bb, gb, hk, hn', rfl, hbb, hgb, b7⟩⟩
  · omega
  obtain rfl : n = n' := by omega
  refine ⟨_, _, rfl, ⟨(new_spec (by omega) _).mono ?_⟩⟩
  rintro e w8 ⟨x78, ⟨hno, _⟩ | ⟨n', bc, gc, hk, hn', rfl, hbc, hgc, c8⟩⟩
  · omega
  obtain rfl : n = n' := by omega
  have x08 := ((x05.trans x56).trans x67).trans x78
  have z5 := x05.size; have z6 := x56.size
  have hb6 := a6.ws.lt; have hg6 := a6.hd.lt; have hb7 := b7.ws.lt; have hg7 := b7.hd.lt; have hb8 := c8.ws.lt; have hg8 := c8.hd.lt
  refine ⟨_, _, rfl, fun _ => ⟨fun _ => ⟨fun _ => ⟨fun _ => ⟨fun _ => ⟨fun _ => ⟨fun h => absurd rfl h, fun _ => ?_⟩, fun h => absurd rfl h⟩, fun h => absurd rfl h⟩, fun h => (by cases h)⟩, fun h => (by cases h)⟩, fun h => (by cases h)⟩, fun h => (by cases h)⟩
  refine ⟨(laid_spec hts x08 (by omega) ((a6.ext x67).ext x78) rfl (by show 0 - 0 + roomT ts ≤ n; omega) ⟨by omega, by omega⟩).mono ?_⟩
  rintro e w9 ⟨sa, A9, pa, rfl, hpa, oa, a9, La, u9⟩
  have z9 := u9.size
  have x09 : Ext w w9 := x08.fresh u9 (by rintro k (rfl | rfl) <;> omega)
  refine ⟨_, rfl, ⟨(laid_spec hts x09 (by omega) ((b7.ext x78).upd u9 (by omega) (by omega)) rfl (by show 0 - 0 + roomT ts ≤ n; omega) ⟨by omega, by omega⟩).mono ?_⟩⟩
  rintro e w10 ⟨sb, B10, pb, rfl, hpb, ob, b10, Lb, u10⟩
  have z10 := u10.size
  have x010 : Ext w w10 := x09.fresh u10 (by rintro k (rfl | rfl) <;> omega)
  refine ⟨_, rfl, ⟨(laid_spec hds x010 (by omega) ((c8.upd u9 (by omega) (by omega)).upd u10 (by omega) (by omega)) rfl (by show 0 - 0 + roomT ds ≤ n; omega) ⟨by omega, by omega⟩).mono ?_⟩⟩
  rintro e w11 ⟨sl, C11, pl, rfl, hpl, ol, c11, Ll, u11⟩
  have z11 := u11.size
  have x011 : Ext w w11 := x010.fresh u11 (by rintro k (rfl | rfl) <;> omega)
  have eu11 : C11.use = ⟨0, 0 + roomT ds⟩ := Ll.use
  have en11 : C11.n = n := Ll.nn
  refine ⟨_, rfl, fun _ => ⟨fun _ => ⟨fun h => (by rw [hpl] at h; cases h), fun _ => ⟨(laid_spec hts x011 (by omega) c11 Ll.opn (by rw [eu11, en11]; dsimp only; omega) ⟨by omega, by omega⟩).mono ?_⟩⟩, fun h => (by rw [hpb] at h; cases h)⟩, fun h => (by rw [hpa] at h; cases h)⟩
  rintro e w12 ⟨sc, C12, pc, rfl, hpc, oc, c12, Lc, u12⟩
  have z12 := u12.size
  have x012 : Ext w w12 := x011.fresh u12 (by rintro k (rfl | rfl) <;> omega)
  -- what stands where
  have hLa : Laid (tsT ts) ts.length n 0 (List.range ts.length) (fun m => 0 + posR ts m) A9 := La.done a6.ok (by show roomT ts ≤ n; omega)
  have hLb : Laid (tsT ts) ts.length n 0 (List.range ts.length) (fun m => 0 + posR ts m) B10 := Lb.done b7.ok (by show roomT ts ≤ n; omega)
  have hLc : Laid (tsT ts) ts.length n 0 (List.range ts.length) (fun m => roomT ds + posR ts m) C12 := by
    have := Lc.done c11.ok (by rw [en11]; omega)
    rw [eu11, en11] at this
    simp only [Nat.zero_add] at this
    exact this
  have hAr : ∀ a, n ≤ a → a < 2 * n → A9.ws[a]? = some 0 := fun a h1 h2 => by
    rw [La.rest a (.inr (by show 0 + roomT ts ≤ a; omega))]; exact newA_word h2
  have hCr : ∀ a, n ≤ a → a < 2 * n → C12.ws[a]? = some 0 := fun a h1 h2 => by
    rw [Lc.rest a (.inr (by rw [eu11]; dsimp only; omega)), Ll.rest a (.inr (by show 0 + roomT ds ≤ a; omega))]; exact newA_word h2
  have ea : ∀ m, toR ts 0 m = 0 + posR ts m + 1 := fun m => rfl
  have ec : ∀ m, toR ts C11.use.e m = roomT ds + posR ts m + 1 := fun m => by rw [eu11]; unfold toR; dsimp only; omega
  have a12 := ((a9.upd u10 (by omega) (by omega)).upd u11 (by omega) (by omega)).upd u12 (by omega) (by omega)
  have b12 := (b10.upd u11 (by omega) (by omega)).upd u12 (by omega) (by omega)
  have hoff : ∀ {B : Nat} {sx : Sl} {xs : List Value} {v : World}, Own v B 23 1 sx xs → w8.heap.size ≤ B → ∀ {b' g' : Nat}, b' < w8.heap.size → g' < w8.heap.size → sx.off fun k => k = b' ∨ k = g' := fun o hB b' g' h1 h2 p hp => by have := o.base p hp; rintro (e | e) <;> omega
  have oa12 := ((oa.upd u10 (hoff oa (Nat.le_refl _) (by omega) (by omega))).upd u11 (hoff oa (Nat.le_refl _) (by omega) (by omega))).upd u12 (hoff oa (Nat.le_refl _) (by omega) (by omega))
  have han := oa12.len1; have hcn := oc.len1
  rw [uv_length, List.length_map, List.length_range] at han hcn
  refine ⟨_, rfl, fun h => (by rw [hpc] at h; cases h), fun _ => ?_⟩
  refine ⟨fun s6 s7 w' => ∃ rl : List Nat, rl.length ≤ rs.length ∧ (∀ j ∈ rl, j < ts.length) ∧ Own w' w12.heap.size 23 1 s6 (uv (rl.map fun j => 0 + posR ts j + 1)) ∧ Own w' w12.heap.size 23 1 s7 (uv (rl.map fun j => roomT ds + posR ts j + 1)) ∧ Ext w12 w', ?_, ?_⟩
  · refine ⟨fun s6 s7 i w' => ∃ rl : List Nat, i = (rl.length : Nat) ∧ rl.length ≤ rs.length ∧ (∀ j ∈ rl, j < ts.length) ∧ Own w' w12.heap.size 23 1 s6 (uv (rl.map fun j => 0 + posR ts j + 1)) ∧ Own w' w12.heap.size 23 1 s7 (uv (rl.map fun j => roomT ds + posR ts j + 1)) ∧ Ext w12 w' ∧ (∀ p q, s6.a = some p → s7.a = some q → p.block ≠ q.block), fun _ _ i _ => (rs.length - i).toNat,
      ⟨[], rfl, Nat.zero_le _, fun j h => (by cases h), .nil .., .nil .., Ext.refl _, fun p q h => (by cases h)⟩, ?_⟩
    rintro _ s6 s7 i w13 ⟨rl, rfl, hrl, hj, o6, o7, x13, hne⟩
    have z13 := x13.size
    refine ⟨fun hlt => ⟨fun h0 => ?_, fun h0 => ⟨rl, hrl, hj, o6, o7, x13⟩⟩, fun hge => ⟨rl, hrl, hj, o6, o7, x13⟩⟩
    obtain ⟨p, y, hp, hy, hcy⟩ := (hrs.ext (x012.trans x13)).intl rl.length (by omega)
    rw [Nat.mul_one] at hcy
    have hyb := hrb y (List.mem_of_getElem? hy)
    refine ⟨by omega, by omega, p, hp, y, by rw [Int.toNat_natCast]; exact hcy, ⟨(pick_spec y (s.n : Int) w13 hyb.1 hyb.2 (by omega)).mono ?_⟩⟩
    rintro e w14 ⟨rfl, rfl⟩
    have hpk := pk_lt (c := y) (n := (s.n : Int)) (by omega)
    obtain ⟨j, hjj⟩ : ∃ j : Nat, pk y (s.n : Int) = j := ⟨(pk y (s.n : Int)).toNat, by omega⟩
    rw [hjj] at hpk ⊢
    obtain ⟨p1, y1, hp1, hy1, hc1'⟩ := (oa12.ext x13).rd.word j (by omega)
    rw [List.getElem?_map, List.getElem?_range (by omega)] at hy1
    injection hy1 with hy1; subst hy1
    rw [Nat.mul_one] at hc1'
    refine ⟨_, rfl, by omega, by omega, p1, hp1, _, by rw [Int.toNat_natCast]; exact hc1', fun w15 n15 => ?_⟩
    have z15 := n15.size
    have h6n := o6.len1; have h7n := o7.len1
    rw [uv_length, List.length_map] at h6n h7n
    obtain ⟨s6', w16, hr16, hn16, o16, u16, c16⟩ := (o6.ext n15.ext).append (t := 30) (ty := 30) tab_ok (by rfl) (by rfl) (by decide) (x := ⟨some ⟨w14.heap.size, 0, none⟩, 1, 1⟩) (news := uv [toR ts 0 j]) ((Blk.new n15).rd (z := 1) (o := 0) (n := 1) (c := 1) (by simp)) (uv_ones _) (by dsimp only; omega) (by dsimp only; omega) (by omega)
    have z16 := u16.size
    have hS6 : ∀ k, (∃ p, s6.a = some p ∧ k = p.block) → w12.heap.size ≤ k := by rintro k ⟨q', hq', rfl⟩; exact (o6.base q' hq').1
    have x16 : Ext w12 w16 := (x13.trans n15.ext).fresh u16 hS6
    obtain ⟨p2, y2, hp2, hy2, hc2'⟩ := (oc.ext x16).rd.word j (by omega)
    rw [List.getElem?_map, List.getElem?_range (by omega)] at hy2
    injection hy2 with hy2; subst hy2
    rw [Nat.mul_one] at hc2'
    refine ⟨s6', w16, hr16, by omega, by omega, p2, hp2, _, by rw [Int.toNat_natCast]; exact hc2', fun w17 n17 => ?_⟩
    have z17 := n17.size
    have o7' := ((o7.ext n15.ext).upd u16 (fun q hq ⟨p, hp, e⟩ => hne p q hp hq e.symm)).ext n17.ext
    obtain ⟨s7', w18, hr18, hn18, o18, u18, c18⟩ := o7'.append (t := 30) (ty := 30) tab_ok (by rfl) (by rfl) (by decide) (x := ⟨some ⟨w16.heap.size, 0, none⟩, 1, 1⟩) (news := uv [toR ts C11.use.e j]) ((Blk.new n17).rd (z := 1) (o := 0) (n := 1) (c := 1) (by simp)) (uv_ones _) (by dsimp only; omega) (by dsimp only; omega) (by omega)
    have hS7 : ∀ k, (∃ p, s7.a = some p ∧ k = p.block) → w12.heap.size ≤ k := by rintro k ⟨q', hq', rfl⟩; exact (o7.base q' hq').1
    have hb6' := fun p hp => o6.base p hp
    have hb7' := fun p hp => o7.base p hp
    have h66 : ∀ p, s6'.a = some p → s6.a = some p ∨ w15.heap.size ≤ p.block := fun p hp => c16 p hp
    have hb16 := fun p hp => o16.base p hp
    have hne' : ∀ p q, s6'.a = some p → s7.a = some q → p.block ≠ q.block := fun p q hp hq => by
      rcases h66 p hp with h | h
      · exact hne p q h hq
      · have := hb7' q hq; omega
    have e1 : IntKind.i64.wrap (((rl.length : Nat) : Int) + 1) = (((rl ++ [j]).length : Nat) : Int) := by rw [wrap_i64 (by omega) (by omega), List.length_append]; simp
    rw [e1]
    refine ⟨s7', w18, hr18, ⟨rl ++ [j], rfl, by rw [List.length_append]; simp; omega, fun k hk => ?_, ?_, ?_, (x16.trans n17.ext).fresh u18 hS7, fun p q hp hq => ?_⟩, by rw [List.length_append]; dsimp only [List.length]; omega⟩
    · rcases List.mem_append.1 hk with hk | hk
      · exact hj k hk
      · rw [List.mem_singleton.1 hk]; omega
    · rw [List.map_append, uv_append]
      exact (o16.ext n17.ext).upd u18 (fun p hp ⟨q, hq, e⟩ => hne' p q hp hq e)
    · rw [List.map_append, uv_append]
      rw [ec] at o18
      exact o18
    · rcases c18 q hq with h | h
      · exact hne' p q hp h
      · have := hb16 p hp; omega
  rintro _ s6 s7 w13 ⟨rl, hrl, hj, o6, o7, x1213⟩
  have hjo : ∀ {order}, order = List.range ts.length → ∀ j ∈ rl, j ∈ order := fun e j h => by rw [e]; exact List.mem_range.2 (hj j h)
  have h6n := o6.len1
  rw [uv_length, List.length_map] at h6n
  have x013 := x012.trans x1213
  have z13 := x1213.size
  have hoff' : ∀ {sx : Sl} {xs : List Value} {v : World}, Own v w12.heap.size 23 1 sx xs → ∀ {b' g' : Nat}, b' < w8.heap.size → g' < w8.heap.size → sx.off fun k => k = b' ∨ k = g' := fun o b' g' h1 h2 p hp => by have := o.base p hp; rintro (e | e) <;> omega
  have hlen : rl.length ≤ 17592186043905 := by omega
  refine ⟨fun a w' => Coll w' a b g n 0 ts rl A9 ∧ Upd (fun k => k = b ∨ k = g) w13 w', ⟨?_⟩, ?_⟩
  · refine (visited_less (a12.ext x1213) hLa o6.rd (hjo rfl) hlen).mono ?_
    rintro e w14 ⟨s', n1, e1, cl, c0, c1, c2, rfl, u14, hd⟩
    refine ⟨_, _, _, _, .inr ⟨_, _, _, rfl, fun w15 n15 => ⟨rfl, (Blk.new n15).canSetN 0 5 (by simp), fun w16 s16 => ?_⟩⟩⟩
    obtain ⟨hC, x16, _⟩ := hd _ _ n15 s16
    exact ⟨hC, u14.trans x16 fun _ _ hn => ⟨hn, not_false⟩⟩
  rintro _ a1 w14 ⟨hCa, u14⟩
  have z14 := u14.size
  have x014 : Ext w w14 := x013.fresh u14 (by rintro k (rfl | rfl) <;> omega)
  have o6' := o6.upd u14 (hoff' o6 (by omega) (by omega))
  have o7' := o7.upd u14 (hoff' o7 (by omega) (by omega))
  refine ⟨fun a w' => (∃ k, k ≤ rl.length ∧ Coll w' a bb gb n 0 ts (rl.take k) B10) ∧ Upd (fun k => k = bb ∨ k = gb) w14 w', ⟨?_⟩, ?_⟩
  · have ef : IntKind.i64.wrap ((s6.n : Int) + 1) = ((s6.n : Int) + 1) := wrap_i64 (by omega) (by omega)
    rw [ef]
    refine (pick_spec x3 ((s6.n : Int) + 1) w14 r3.1 r3.2 (by omega)).mono ?_
    rintro e w15 ⟨rfl, rfl⟩
    have hpk := pk_lt (c := x3) (n := (s6.n : Int) + 1) (by omega)
    obtain ⟨k, hk'⟩ : ∃ k : Nat, pk x3 ((s6.n : Int) + 1) = k := ⟨(pk x3 ((s6.n : Int) + 1)).toNat, by omega⟩
    rw [hk'] at hpk ⊢
    have hcap := o6'.cap
    refine ⟨_, rfl, by omega, by omega, ⟨?_⟩⟩
    rw [cut0, Int.toNat_natCast]
    have hrd := o6'.rd.take (k := k) (c := s6.c) (by omega)
    have er : (uv (rl.map fun j => 0 + posR ts j + 1)).take k = uv ((rl.take k).map fun j => 0 + posR ts j + 1) := by simp [uv, List.map_take]
    rw [er] at hrd
    refine (visited_less (l := ⟨s6.a, k, s6.c⟩) ((b12.ext x1213).upd u14 (by omega) (by omega)) hLb hrd (fun j hjk => hjo rfl j (List.mem_of_mem_take hjk)) (by rw [List.length_take]; omega)).mono ?_
    rintro e w16 ⟨s', n1, e1, cl, c0, c1, c2, rfl, u16, hd⟩
    refine ⟨_, _, _, _, .inr ⟨_, _, _, rfl, fun w17 n17 => ⟨rfl, (Blk.new n17).canSetN 0 5 (by simp), fun w18 s18 => ?_⟩⟩⟩
    obtain ⟨hC, x18, _⟩ := hd _ _ n17 s18
    exact ⟨⟨k, by omega, hC⟩, u16.trans x18 fun _ _ hn => ⟨hn, not_false⟩⟩
  rintro _ a2 w15 ⟨⟨kf, hkf, hCb⟩, u15⟩
  have z15 := u15.size
  have x015 : Ext w w15 := x014.fresh u15 (by rintro k (rfl | rfl) <;> omega)
  have o7'' := o7'.upd u15 (hoff' o7' (by omega) (by omega))
  refine ⟨fun a w' => Coll w' a bc gc n 0 ts rl C12 ∧ Upd (fun k => k = bc ∨ k = gc) w15 w', ⟨?_⟩, ?_⟩
  · refine (visited_less (((c12.ext x1213).upd u14 (by omega) (by omega)).upd u15 (by omega) (by omega)) hLc o7''.rd (hjo rfl) hlen).mono ?_
    rintro e w16 ⟨s', n1, e1, cl, c0, c1, c2, rfl, u16, hd⟩
    refine ⟨_, _, _, _, .inr ⟨_, _, _, rfl, fun w17 n17 => ⟨rfl, (Blk.new n17).canSetN 0 5 (by simp), fun w18 s18 => ?_⟩⟩⟩
    obtain ⟨hC, x18, _⟩ := hd _ _ n17 s18
    exact ⟨hC, u16.trans x18 fun _ _ hn => ⟨hn, not_false⟩⟩
  rintro _ a3 w16 ⟨hCc, u16⟩
  have z16 := u16.size
  have x016 : Ext w w16 := x015.fresh u16 (by rintro k (rfl | rfl) <;> omega)
  obtain ⟨Da, sa', ca0, ca1, ca2, Qa, Aa, rfl, da, hwa, aa, hla, hza, hra⟩ := hCa
  obtain ⟨Db, sb', cb0, cb1, cb2, Qb, Ab, rfl, db, hwb, ab, hlb, hzb, hrb'⟩ := hCb
  obtain ⟨Dc, sc', cc0, cc1, cc2, Qc, Ac, rfl, dc, hwc, ac, hlc, hzc, hrc⟩ := hCc
  obtain rfl : Qc = Qa := hwc.uniq hwa
  have hsub : szQ (tsT ts) Qb ≤ szQ (tsT ts) Qc := by
    refine szQ_sub _ _ _ hlb.nd (hwb.least (S := fun j => j ∈ Qc) (fun j hj i hi m hm => hla.closed j hj i hi m hm) fun j hj => ?_)
    obtain ⟨r, hr⟩ := hwa.pre
    rw [hr]
    refine List.mem_append_left _ ?_
    rw [fold_mem] at hj ⊢
    rcases hj with hj | hj
    · cases hj
    · right
      obtain ⟨k, hk, e⟩ := List.mem_map.1 hj
      exact List.mem_map.2 ⟨k, List.mem_of_mem_take hk, e⟩
  have b14 := (b12.ext x1213).upd u14 (by omega) (by omega)
  have c15 := ((c12.ext x1213).upd u14 (by omega) (by omega)).upd u15 (by omega) (by omega)
  have n1 := da.ne b14.ws (by decide); have n2 := da.ne b14.hd (by decide)
  have da15 := da.upd u15 (by omega)
  have n3 := da15.ne c15.ws (by decide); have n4 := da15.ne c15.hd (by decide)
  have da16 := da15.upd u16 (by omega)
  have n5 := db.ne c15.ws (by decide); have n6 := db.ne c15.hd (by decide)
  have db16 := db.upd u16 (by omega)
  have aa16 := (aa.upd u15 (by omega) (by omega)).upd u16 (by omega) (by omega)
  have hz : s6.n = 0 → szQ (tsT ts) Qc = 0 := fun h => by
    have : rl = [] := List.eq_nil_of_length_eq_zero (by omega)
    subst this
    have := hwc.of_nil
    rw [this]; rfl
  refine ⟨fun w' => w' = w16, ⟨_, rfl, _, da16.cell 2, fun _ => ⟨_, rfl, _, db16.cell 2, fun _ => ⟨_, rfl, _, dc.cell 2, fun _ => ⟨_, rfl, _, db16.cell 1, _, rfl, _, da16.cell 1, fun _ => ⟨_, rfl, _, dc.cell 1, _, rfl, _, da16.cell 1, fun _ => ⟨fun h0 => ⟨_, rfl, _, da16.cell 1, fun h => absurd (by rw [hz (by omega)]; rfl) h, fun _ => rfl⟩, fun _ => rfl⟩, fun h => absurd rfl h⟩, fun h => by omega⟩, fun h => absurd rfl h⟩, fun h => absurd rfl h⟩, fun h => absurd rfl h⟩, ?_⟩
  rintro _ w17 rfl
  have hla' := hla; have hlc' := hlc
  rw [Nat.sub_zero] at hla' hlc' hra hrc
  have hAl : Aa.ws.length = 2 * n := by rw [hla.ok.len, hla.nn]
  have hCl : Ac.ws.length = 2 * n := by rw [hlc.ok.len, hlc.nn]
  have same : ∀ a : Nat, a < 2 * n → Aa.ws[a]? = Ac.ws[a]? := fun a ha => by
    by_cases h1 : a < n
    · rw [hza a (Nat.zero_le _) (by omega), hzc a (Nat.zero_le _) (by omega)]
    · by_cases h2 : a < n + szQ (tsT ts) Qc
      · exact hla'.words hlc' (by omega) h2
      · rw [hra a (by omega) (by omega), hrc a (by omega) (by omega), hAr a (by omega) ha, hCr a (by omega) ha]
  refine ⟨fun i w' => ∃ k : Nat, i = (k : Nat) ∧ k ≤ 2 * n ∧ w' = w17, fun i _ => (2 * n - i).toNat, ⟨0, rfl, Nat.zero_le _, rfl⟩, ?_⟩
  rintro _ i w18 ⟨k, rfl, hk, rfl⟩
  refine ⟨fun hlt => ⟨(word_spec aa16 (k : Int)).mono ?_⟩, fun _ => x016⟩
  rintro e w19 ⟨rfl, rfl⟩
  refine ⟨_, _, rfl, ⟨(word_spec ac (k : Int)).mono ?_⟩⟩
  rintro e w20 ⟨rfl, rfl⟩
  have e1 : wordO Aa (k : Int) = (Aa.ws.getD k 0, true) := by unfold wordO; rw [if_pos (by omega), Int.toNat_natCast]
  have e2 : wordO Ac (k : Int) = (Ac.ws.getD k 0, true) := by unfold wordO; rw [if_pos (by omega), Int.toNat_natCast]
  have e3 : Aa.ws.getD k 0 = Ac.ws.getD k 0 := by rw [List.getD_eq_getElem?_getD, List.getD_eq_getElem?_getD, same k (by omega)]
  have e4 : IntKind.i64.wrap (((k : Nat) : Int) + 1) = ((k + 1 : Nat) : Int) := by rw [wrap_i64 (by omega) (by omega)]; omega
  rw [e1, e2, e3, e4]
  exact ⟨_, _, rfl, fun h => absurd rfl h, fun _ => ⟨⟨k + 1, rfl, by omega, rfl⟩, by dsimp only; omega⟩⟩
end Go.Proofs.Ytgbpglfieellpaa.V
