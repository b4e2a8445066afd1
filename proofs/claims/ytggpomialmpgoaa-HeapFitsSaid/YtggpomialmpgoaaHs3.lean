/-
  Law HeapFits: the walk.
-/
import Derived.Test.YtggpomialmpgoaaHs2
namespace Go.Proofs.Ytggpomialmpgoaa.V
open Go Go.RowKit
set_option linter.unusedVariables false
set_option linter.unusedSimpArgs false
set_option maxRecDepth 100000

/-- the forced ones, each below a bound -/
structure Lst (w w1 : World) (s : Sl) (fl : List Int) (M c : Nat) : Prop where
  len : fl.length ≤ c
  lt : ∀ m ∈ fl, 0 ≤ m ∧ m < M
  own : Own w w1.heap.size 3 1 s (iv fl)
  x : Ext w1 w
theorem heapfits_walk (w : World) (v0 v1 v2 v3 v4 v5 : Value) (x0 x1 x2 x3 : Int) (x4 : (Par.one (.sl 8 (.cons (.int .i64) .nil))).T) (x5 : Bool) (h0 : (Par.one (.int .i64)).Is w v0 x0) (h1 : (Par.one (.int .i64)).Is w v1 x1) (h2 : (Par.one (.int .i64)).Is w v2 x2) (h3 : (Par.one (.int .i64)).Is w v3 x3)
    (h4 : (Par.one (.sl 8 (.cons (.int .i64) .nil))).Is w v4 x4) (h5 : (Par.one .bool).Is w v5 x5) :
    Calls Try.prog 5 #[v0, v1, v2, v3, v4, v5] w fun e w' => e = .returned (.bool true) ∧ Ext w w' := by
  obtain ⟨rfl, r0⟩ := h0
  obtain ⟨rfl, r1⟩ := h1
  obtain ⟨rfl, r2⟩ := h2
  obtain ⟨rfl, r3⟩ := h3
  obtain ⟨rfl, hc, hm, _, fl0, hfl, hfb⟩ := is_ints h4
  obtain rfl : v5 = .bool x5 := h5
  have r0 := wf_i64 r0; have r1 := wf_i64 r1; have r2 := wf_i64 r2; have r3 := wf_i64 r3
  obtain ⟨forced, ls⟩ := x4
  dsimp only at *
  have hfn := hfl.leni
  refine vc_5 x0 x1 x2 x3 forced x5 _ _ ?_
  simp only [eq_self, false_or, or_false, true_and, and_true, decide_eq_true_eq, decide_eq_false_iff_not, gd_st, gd_sf, exists_eq_left', exists_eq_left, Option.some.injEq, Sl.eta, Nat.reduceLeDiff, Int.reduceLE, Int.reduceLT, Int.reduceEq, Int.reduceNe, Nat.reduceMul, Nat.reduceAdd, Nat.reduceSub, Int.toNat_natCast, beq_iff_eq, bne_iff_ne, beq_eq_false_iff_ne, bne_eq_false_iff_eq, pick_and, pick_or, Bool.and_eq_true, Bool.or_eq_true, Bool.and_eq_false_iff, Bool.or_eq_false_iff, ne_eq, not_false_eq_true, Bool.not_eq_true', Bool.not_eq_false', reduceCtorEq, Nat.le_refl, Nat.zero_mul, Nat.mul_one, Nat.zero_add, Int.reduceToNat, ones, one, add_mk, Decidable.not_not, cond_true, cond_false, true_implies, false_implies, implies_true, Bool.not_true, Bool.not_false]
  refine ⟨(shown_spec w).mono ?_⟩
  rintro e w1 ⟨rfl, x01⟩
  have hp0 := pk_lt (c := x0) (n := 6) (by decide)
  have hp1 := pk_lt (c := x1) (n := 12) (by decide)
  have hp2 := pk_lt (c := x2) (n := 20) (by decide)
  have hp3 := pk_lt (c := x3) (n := 120) (by decide)
  obtain ⟨k, hk⟩ : ∃ k : Nat, 1 + pk x0 6 = k := ⟨(1 + pk x0 6).toNat, by omega⟩
  obtain ⟨n, hn⟩ : ∃ n : Nat, 1 + pk x1 12 = n := ⟨(1 + pk x1 12).toNat, by omega⟩
  obtain ⟨sp, hsp⟩ : ∃ sp : Nat, pk x2 20 = sp := ⟨(pk x2 20).toNat, by omega⟩
  obtain ⟨K, hK⟩ : ∃ K : Nat, pk x3 120 = K := ⟨(pk x3 120).toNat, by omega⟩
  have ek : IntKind.i64.wrap (1 + pk x0 6) = (k : Nat) := by rw [wrap_i64 (by omega) (by omega)]; exact hk
  have en : IntKind.i64.wrap (1 + pk x1 12) = (n : Nat) := by rw [wrap_i64 (by omega) (by omega)]; exact hn
  refine ⟨_, rfl, ⟨(pick_spec x0 6 w1 r0.1 r0.2 (by decide)).mono ?_⟩⟩
  rintro e w2 ⟨rfl, rfl⟩
  refine ⟨_, rfl, ⟨(pick_spec x1 12 w2 r1.1 r1.2 (by decide)).mono ?_⟩⟩
  rintro e w3 ⟨rfl, rfl⟩
  refine ⟨_, rfl, ?_⟩
  rw [ek, en]
  intro w2 n2
  have z1 := x01.size; have z2 := n2.size
  refine ⟨fun s w' => ∃ fl : List Int, Lst w' w3 s fl 200 300, ?_, ?_⟩
  · refine ⟨fun s i w' => ∃ fl : List Int, i = (fl.length : Nat) ∧ fl.length ≤ forced.n ∧ Lst w' w3 s fl 200 300, fun _ i _ => (300 - i).toNat,
      ⟨[], rfl, Nat.zero_le _, by simp, fun m h => (by cases h), Own.lit (z := 1) (n := 0) (cs := []) n2 (Nat.le_refl _) rfl (by decide), n2.ext⟩, ?_⟩
    rintro _ s i w4 ⟨fl, rfl, hlf, hl2, hb, o3, x3'⟩
    refine ⟨fun hlt => ⟨fun hlt2 => ?_, fun _ => ⟨fl, hl2, hb, o3, x3'⟩⟩, fun _ => ⟨fl, hl2, hb, o3, x3'⟩⟩
    obtain ⟨p, y, hp, hy, hcy⟩ := (hfl.ext (x01.trans x3')).intl fl.length (by omega)
    rw [Nat.mul_one] at hcy
    have hyb := hfb y (List.mem_of_getElem? hy)
    refine ⟨by omega, by omega, p, hp, y, by rw [Int.toNat_natCast]; exact hcy, ⟨(pick_spec y 200 w4 hyb.1 hyb.2 (by decide)).mono ?_⟩⟩
    rintro e w5 ⟨rfl, rfl⟩
    have hpk := pk_lt (c := y) (n := 200) (by decide)
    refine ⟨_, rfl, fun w6 n6 => ?_⟩
    have z3 := x3'.size; have z5 := n6.size
    have h3n := o3.len1
    rw [iv_length] at h3n
    obtain ⟨s', w7, hr6, hn6, o6, u6, c6⟩ := (o3.ext n6.ext).append (t := 22) (ty := 22) tab_ok (by rfl) (by rfl) (by decide) (x := ⟨some ⟨w5.heap.size, 0, none⟩, 1, 1⟩) (news := iv [pk y 200]) ((Blk.new n6).rd (z := 1) (o := 0) (n := 1) (c := 1) (by simp)) (iv_ones _) (by dsimp only; omega) (by dsimp only; omega) (by omega)
    have e1 : IntKind.i64.wrap (((fl.length : Nat) : Int) + 1) = (((fl ++ [pk y 200]).length : Nat) : Int) := by rw [wrap_i64 (by omega) (by omega), List.length_append]; simp
    rw [e1]
    refine ⟨s', w7, hr6, ⟨fl ++ [pk y 200], rfl, by rw [List.length_append, List.length_singleton]; omega, by rw [List.length_append, List.length_singleton]; omega, fun m hm => ?_, by rw [iv_append]; exact o6, (x3'.trans n6.ext).fresh u6 (by rintro i ⟨q, hq, rfl⟩; exact (o3.base q hq).1)⟩, by rw [List.length_append]; dsimp only [List.length]; omega⟩
    rcases List.mem_append.1 hm with hm | hm
    · exact hb m hm
    · rw [List.mem_singleton.1 hm]; exact hpk
  rintro _ s w4 ⟨fl, hl2, hb2, o3, x13⟩
  have z3 := x13.size
  refine ⟨(pick_spec x2 20 w4 r2.1 r2.2 (by decide)).mono ?_⟩
  rintro e w5 ⟨rfl, rfl⟩
  have hkn : (k + 1) * (n + 2) ≤ 7 * 14 := Nat.mul_le_mul (by omega) (by omega)
  obtain ⟨W, hW⟩ : ∃ W, (k + 1) * (n + 2) + sp = W := ⟨_, rfl⟩
  have eW : IntKind.i64.wrap (IntKind.i64.wrap (IntKind.i64.wrap ((k : Int) + 1) * IntKind.i64.wrap ((n : Int) + 2)) + (sp : Int)) = (W : Nat) := by
    have e1 : IntKind.i64.wrap ((k : Int) + 1) = ((k + 1 : Nat) : Int) := by rw [wrap_i64 (by omega) (by omega)]; omega
    have e2 : IntKind.i64.wrap ((n : Int) + 2) = ((n + 2 : Nat) : Int) := by rw [wrap_i64 (by omega) (by omega)]; omega
    rw [e1, e2, ← Int.natCast_mul, wrap_i64 (n := (((k + 1) * (n + 2) : Nat) : Int)) (by omega) (by omega), wrap_i64 (by omega) (by omega)]
    omega
  refine ⟨_, rfl, ?_⟩
  rw [hsp, eW]
  refine ⟨(newH_spec (by omega) o3.rd x5).mono ?_⟩
  have e0 := newHT_of (n := W) (fl := fl) (zero := x5) (by omega) (by omega) (fun m hm => (hb2 m hm).1)
  rintro e w6 ⟨x56, ⟨hno, _⟩ | ⟨x, b, g, r, H, hH, rfl, hx, hbb, hgg, hrr, H6⟩⟩
  · rw [e0] at hno; cases hno
  rw [e0] at hH
  injection hH with hH; subst hH
  have lt6 := H6.lt
  have z5 := x56.size
  have hn0 : n ≤ 1000 := by omega
  refine ⟨_, _, rfl, fun _ => ⟨fun _ => ⟨fun _ => ⟨_, rfl, _, H6.hd.cell 0, fun h => (by cases h), fun _ w7 n7 => ⟨by simp [len', wr, splice, rep], HB.can n7, fun w8 s8 => ?_⟩⟩, fun h => absurd rfl h⟩, fun h => (by cases h)⟩, fun h => (by cases h)⟩
  obtain ⟨hb8, x68⟩ := HB.made (h := ⟨2, 9, (n : Nat), 0⟩) n7 s8
  have z68 := x68.size; have l8 := hb8.lt
  have H8 := H6.ext x68
  obtain ⟨B, hBd⟩ : ∃ B, B = w8.heap.size := ⟨_, rfl⟩
  have keep : ∀ {v v' : World} {S : Nat → Prop}, (HB v w6.heap.size ⟨2, 9, (n : Nat), 0⟩ ∧ Ext w3 v ∧ B ≤ v.heap.size) → Upd S v v' → (∀ k, S k → k = b ∨ k = g ∨ k = x ∨ B ≤ k) → (HB v' w6.heap.size ⟨2, 9, (n : Nat), 0⟩ ∧ Ext w3 v' ∧ B ≤ v'.heap.size) := by
    rintro v v' S ⟨k1, k3, k4⟩ u hS
    have := u.size
    exact ⟨k1.upd u (fun hs => by have := hS _ hs; omega), k3.fresh u (fun k hk => by have := hS k hk; omega), by omega⟩
  have K8 : HB w8 w6.heap.size ⟨2, 9, (n : Nat), 0⟩ ∧ Ext w3 w8 ∧ B ≤ w8.heap.size := ⟨hb8, (x13.trans x56).trans x68, by omega⟩
  have hBlt : x < B ∧ b < B ∧ g < B ∧ r < B := by omega
  have L0 : Laid (rO n hn0) 0 W 0 [] (pNew (rO n hn0) 0 []) (newA W) := ⟨newA_ok (by omega), rfl, rfl, rfl, fun j h => (by cases h), fun j h => (by cases h), List.nodup_nil, by simp [szQ], fun j h => (by cases h)⟩
  have F0 : Fi w8 x b g r B n W hn0 fl x5 false false 0 ⟨none, 0, 0⟩ [] := ⟨⟨0, [], _, _, _, H8, L0, by simp [szQ, newA], fun h => (by cases h), fun j h => (by cases h), fun j h => (by cases h), .of_own (.nil ..)⟩, List.nodup_nil⟩
  refine ⟨fun s1 i w' => ∃ (i' a m : Nat), i = (i' : Nat) ∧ i' ≤ K ∧ a + m = i' ∧ m ≤ k ∧ Fi w' x b g r B n W hn0 fl x5 false false i' s1 (List.range' a m) ∧ (HB w' w6.heap.size ⟨2, 9, (n : Nat), 0⟩ ∧ Ext w3 w' ∧ B ≤ w'.heap.size), fun _ i _ => (K - i).toNat,
    ⟨0, 0, 0, rfl, Nat.zero_le _, rfl, Nat.zero_le _, F0, K8⟩, ?_⟩
  rintro _ s1 i w9 ⟨i', a, m, rfl, hiK, ham, hmk, F9, K9⟩
  refine ⟨(pick_spec x3 120 w9 r3.1 r3.2 (by decide)).mono ?_⟩
  rintro e w10 ⟨rfl, rfl⟩
  rw [hK]
  have ei : IntKind.i64.wrap ((i' : Int) + 1) = ((i' + 1 : Nat) : Int) := by rw [wrap_i64 (by omega) (by omega)]; omega
  have hrl : (List.range' a m).length = m := List.length_range'
  have hl9 := F9.lt
  rw [hrl] at hl9
  refine ⟨_, rfl, fun hlt => ?_, fun hge => ?_⟩
  · refine ⟨_, _, _, _, rfl, ⟨K9.1.cell 0, K9.1.cell 1, K9.1.cell 2, K9.1.cell 3⟩, ⟨F9.due.mono ?_⟩⟩
    rintro e w11 ⟨bb, rfl, x11, hF11⟩
    have K11 := keep K9 x11 (fun k (h : False) => h.elim)
    have F11 := F9.ext x11
    refine ⟨_, rfl, fun s' w' => ∃ fresh, Fi w' x b g r B n W hn0 fl x5 fresh true i' s' (List.range' a m) ∧ (HB w' w6.heap.size ⟨2, 9, (n : Nat), 0⟩ ∧ Ext w3 w' ∧ B ≤ w'.heap.size), ⟨fun ht => ⟨?_⟩, fun hf => ⟨false, hF11 hf, K11⟩⟩, ?_⟩
    · have hmul : (m + 1) * (n + 2) ≤ (k + 1) * (n + 2) := Nat.mul_le_mul_right _ (by omega)
      refine (F11.collect (by rw [hrl]; omega) (by omega) ⟨hBlt.1, hBlt.2.1, hBlt.2.2.1, hBlt.2.2.2, K11.2.2⟩).mono ?_
      rintro e w12 ⟨nb, ls, A', H', rfl, u12, nb12, hls, hnb, H12, hu, hF⟩
      rw [hrl] at hls hu ⊢
      have K12 := keep K11 u12 (by rintro k (rfl | rfl | rfl) <;> simp)
      have hmul2 : m * (n + 2) ≤ 7 * 14 := Nat.mul_le_mul (by omega) (by omega)
      have em : IntKind.i64.wrap ((s1.n : Int) * IntKind.i64.wrap ((n : Int) + 2)) = ((m * (n + 2) : Nat) : Int) := by
        have e2 : IntKind.i64.wrap ((n : Int) + 2) = ((n + 2 : Nat) : Int) := by rw [wrap_i64 (by omega) (by omega)]; omega
        have e1 : (s1.n : Int) * ((n + 2 : Nat) : Int) = ((m * (n + 2) : Nat) : Int) := by rw [← hl9.2.2.2.2.1, Int.natCast_mul]
        rw [e2, e1, wrap_i64 (by omega) (by omega)]
      refine ⟨⟨some ⟨nb, 0, none⟩, m, m⟩, _, rfl, fun _ => ⟨fun _ => ⟨_, rfl, _, H12.hd.cell 0, ⟨(used_spec H12.ar).mono ?_⟩⟩, fun hne => absurd (by rw [hl9.2.2.2.2.1]) hne⟩, fun hne => absurd rfl hne⟩
      rintro e w13 ⟨rfl, q13⟩
      have K13 := keep K12 q13.ext (fun k (h : False) => h.elim)
      rw [em, hu]
      refine ⟨_, rfl, fun hne => absurd rfl hne, fun _ w15 n15 => ?_⟩
      have z15 := n15.size
      have o15 : Own w15 w13.heap.size 35 1 ⟨some ⟨w13.heap.size, 0, none⟩, 0, 0⟩ (uv []) := Own.lit (z := 1) (n := 0) (cs := []) n15 (Nat.le_refl _) rfl (by decide)
      have rd15 : Rd w15 1 ⟨some ⟨nb, 0, none⟩, m, m⟩ (uv ls) := by
        have := (nb12.ext (q13.ext.trans n15.ext)).words
        rw [hls] at this; exact this
      obtain ⟨s2, w16, hr16, hn16, o16, u16, c16⟩ := o15.append (t := 38) (ty := 38) tab_ok (by rfl) (by rfl) (by decide) rd15 (uv_ones _) (by dsimp only; omega) (by dsimp only; omega) (by omega)
      have x1316 : Ext w13 w16 := n15.ext.fresh u16 (by rintro k ⟨q, hq, rfl⟩; exact (o15.base q hq).1)
      have hBl := K13.2.2
      exact ⟨s2, w16, hr16, true, hF w16 s2 (q13.ext.trans x1316) (.of_own (o16.mono hBl)), keep K13 x1316 (fun k (h : False) => h.elim)⟩
    rintro _ s' w12 ⟨fresh, F12, K12⟩
    have hl12 := F12.lt
    rw [hrl] at hl12
    refine ⟨⟨by omega, by omega, by omega, by omega⟩, fun w13 n13 => ?_⟩
    have z13 := n13.size
    have K13 := keep K12 n13.ext (fun k (h : False) => h.elim)
    have b13 := Blk.new n13
    rw [zrow_one, Int.toNat_natCast, show List.replicate n (Value.int .u64 0) = uv (List.replicate n 0) by simp [uv]] at b13
    simp only [Int.toNat_natCast]
    have hiw : IntKind.u64.wrap (i' : Int) = (i' : Nat) := wrap_u64 (by omega) (by omega)
    have en1 : IntKind.i64.wrap ((n : Int) - 1) = ((n - 1 : Nat) : Int) := by rw [wrap_i64 (by omega) (by omega)]; omega
    rw [hiw, en1]
    simp only [Int.toNat_natCast]
    refine ⟨by omega, b13.canSet 0 (by rw [uv_length, List.length_replicate]; omega), fun w14 s14 => ?_⟩
    have b14 := s14.blk1 b13
    rw [uv_set] at b14
    refine ⟨by omega, by omega, b14.canSet (n - 1) (by rw [uv_length, List.length_set, List.length_replicate]; omega), fun w15 s15 => ?_⟩
    have b15 := s15.blk1 b14
    rw [uv_set] at b15
    have x1215 : Ext w12 w15 := (n13.ext.fresh s14.upd (by rintro k rfl; exact Nat.le_refl _)).fresh s15.upd (by rintro k rfl; exact Nat.le_refl _)
    have K15 := keep K12 x1215 (fun k (h : False) => h.elim)
    have F15 := F12.ext x1215
    have hcl : (((List.replicate n 0).set 0 i').set (n - 1) i').length = n := by simp
    have rd15 : Rd w15 1 ⟨some ⟨w12.heap.size, 0, none⟩, n, n⟩ (uv (((List.replicate n 0).set 0 i').set (n - 1) i')) := by
      have := b15.words
      rw [hcl] at this; exact this
    have hBl12 := K12.2.2
    refine ⟨_, _, _, _, rfl, ⟨K15.1.cell 0, K15.1.cell 1, K15.1.cell 2, K15.1.cell 3⟩, ⟨(F15.make (by omega) (by omega) hcl (fun c hc => ?_) rd15 (by rintro p hp; cases hp; rintro (h | h) <;> (dsimp only at h; omega)) ⟨hBlt.1, hBlt.2.1, hBlt.2.2.1, hBlt.2.2.2, K15.2.2⟩).mono ?_⟩⟩
    · rw [List.getElem?_set, List.getElem?_set, List.getElem?_replicate, if_pos hc]
      simp only [List.length_set, List.length_replicate]
      by_cases c1 : n - 1 = c
      · rw [if_pos c1, if_pos (by omega), if_pos (.inr c1.symm)]
      · rw [if_neg c1]
        by_cases c2 : 0 = c
        · rw [if_pos c2, if_pos (by omega), if_pos (.inl c2.symm)]
        · rw [if_neg c2, if_neg (by omega)]
    rintro e w16 ⟨v, rfl, u16, hpush⟩
    have K16 := keep K15 u16 (by rintro k (rfl | rfl | rfl) <;> simp)
    refine ⟨_, _, rfl, fun h => absurd rfl h, fun _ w17 n17 => ?_⟩
    obtain ⟨s3, w18, hr18, hn18, F18, u18, hcap⟩ := hpush w17 n17
    have hb15 := F15.lt.2.2.2.2.2
    have K18 := keep K16 u18 (by rintro k ⟨q, hq, rfl⟩; have := hb15 q hq; simp [this])
    have eR : List.range' a m ++ [i'] = List.range' a (m + 1) := by rw [← ham, List.range'_1_concat]
    rw [eR] at F18
    refine ⟨s3, w18, hr18, fun s4 w' => ∃ a' m', a' + m' = i' + 1 ∧ m' ≤ k ∧ Fi w' x b g r B n W hn0 fl x5 false false (i' + 1) s4 (List.range' a' m') ∧ (HB w' w6.heap.size ⟨2, 9, (n : Nat), 0⟩ ∧ Ext w3 w' ∧ B ≤ w'.heap.size), ⟨fun hcut => ⟨by omega, a + 1, m, by omega, hmk, ?_, K18⟩, fun hno => ⟨a, m + 1, by omega, by omega, F18, K18⟩⟩, ?_⟩
    · have hnd18 := F18.nd
      obtain ⟨f, order, A, co, cp, h1, h2, h3, h4, h5, h6, h7⟩ := F18.ex
      rw [List.range'_succ] at h7 hnd18 h6
      exact ⟨⟨f, order, A, co, cp, h1, h2, h3, h4, h5, fun j hj => h6 j (List.mem_cons_of_mem _ hj), h7.tail⟩, (List.nodup_cons.1 hnd18).2⟩
    rintro _ s4 w19 ⟨a', m', ham', hmk', F19, K19⟩
    have hl19 := F19.lt
    rw [List.length_range'] at hl19
    refine ⟨fun j w' => ∃ jj : Nat, j = (jj : Nat) ∧ jj ≤ m' ∧ Ext w19 w', fun j _ => (m' - j).toNat, ⟨0, rfl, Nat.zero_le _, Ext.refl _⟩, ?_⟩
    rintro _ j w20 ⟨jj, rfl, hjj, x20⟩
    have ejj : IntKind.i64.wrap ((jj : Int) + 1) = ((jj + 1 : Nat) : Int) := by rw [wrap_i64 (by omega) (by omega)]; omega
    rw [ejj, ei]
    refine ⟨fun hlt2 w21 q21 => ?_, fun hge2 => ⟨⟨i' + 1, a', m', rfl, by omega, ham', hmk', F19.ext x20, keep K19 x20 (fun k (h : False) => h.elim)⟩, by omega⟩⟩
    have x21 := x20.trans q21.ext
    obtain ⟨f, order, A, co, cp, H21, L21, ue, _, _, hin, t21⟩ := (F19.ext x21).ex
    have hjr : (List.range' a' m')[jj]? = some (a' + jj) := by rw [List.getElem?_range' (by omega)]; simp
    have hjm := hin _ (List.mem_of_getElem? hjr)
    have hrd : ∀ {v : World}, Ext w21 v → ∃ q, s4.a = some q ∧ v.cell? (q.add jj) = some (.int .u64 ((pNew (rO n hn0) f order (a' + jj) + 1 : Nat) : Int)) := fun xv => by
      obtain ⟨q, y, hq, hy, hcy⟩ := (t21.ext xv).rd.word jj (by omega)
      rw [List.getElem?_map, hjr] at hy
      injection hy with hy; subst hy
      rw [Nat.mul_one] at hcy
      exact ⟨q, hq, hcy⟩
    obtain ⟨q, hq, _⟩ := hrd (Ext.refl _)
    have hlo := (L21.at_ _ hjm).2.1
    have hui := L21.ok.useIn; have hnn := L21.ok.n
    refine ⟨fun _ => False, _, rfl, _, fun v u => (H21.hd.ext u).cell 0, by omega, by omega, q, hq, ((pNew (rO n hn0) f order (a' + jj) + 1 : Nat) : Int), fun v u => ?_, ⟨(Cell_spec H21.ar (r := pNew (rO n hn0) f order (a' + jj) + 1) (by omega) (i := ((n - 1 : Nat) : Int)) (by omega)).mono ?_⟩⟩
    · obtain ⟨q', hq', hcq⟩ := hrd u
      rw [hq] at hq'; injection hq' with hq'; subst hq'
      rw [Int.toNat_natCast]; exact hcq
    rintro e w22 ⟨rfl, x22⟩
    have eC := L21.cell_at hjm (i := n - 1) (by rw [rO_len]; omega)
    have eV : cellV 0 (fun m => pNew (rO n hn0) f order m + 1) (rO n hn0 (a' + jj)) (n - 1) = a' + jj := by
      rw [cellV_no rfl]
      show (if n - 1 = 0 ∨ n - 1 = n - 1 then a' + jj else 0) = _
      rw [if_pos (.inr rfl)]
    rw [eV] at eC
    have eC' : cellO (Hp.mk A fl x5 false ((i' + 1 : Nat) : Int) co cp).A (pNew (rO n hn0) f order (a' + jj) + 1) ((n - 1 : Nat) : Int) = (a' + jj, 0) := eC
    rw [eC']
    have eU : IntKind.u64.wrap (IntKind.i64.wrap (IntKind.i64.wrap (IntKind.i64.wrap ((i' : Int) - (s4.n : Int)) + 1) + (jj : Int))) = ((a' + jj : Nat) : Int) := by
      rw [wrap_i64 (n := (i' : Int) - (s4.n : Int)) (by omega) (by omega), wrap_i64 (n := (i' : Int) - (s4.n : Int) + 1) (by omega) (by omega), wrap_i64 (by omega) (by omega), wrap_u64 (by omega) (by omega)]
      omega
    rw [eU]
    exact ⟨_, _, rfl, fun _ => ⟨fun h => absurd rfl h, fun _ => ⟨⟨jj + 1, rfl, by omega, x21.trans x22⟩, by dsimp only; omega⟩⟩, fun h => absurd rfl h⟩
  · have hi' : i' = K := by omega
    obtain ⟨f, order, A, co, cp, H9, L9, ue, _⟩ := F9.ex
    refine ⟨_, rfl, _, H9.hd.cell 0, ⟨(check_spec H9.ar).mono ?_⟩⟩
    rintro e w11 ⟨rfl, x11⟩
    rw [show checkT (Hp.mk A fl x5 false (i' : Int) co cp).A = (0, 0) from L9.check ue]
    refine ⟨_, _, rfl, ⟨(stats_spec (H9.ext x11)).mono ?_⟩⟩
    rintro e w12 ⟨rfl, x12⟩
    refine ⟨_, _, _, rfl, fun w13 n13 => ⟨rfl, (Blk.new n13).canSetN 0 3 (by simp), fun w14 s14 w15 q15 => ?_⟩⟩
    have k14 := s14.blk (Blk.new n13)
    simp only [setsL, List.set] at k14
    have x1214 : Ext w12 w14 := n13.ext.fresh s14.upd (by rintro i rfl; exact Nat.le_refl _)
    refine ⟨fun _ => False, fun _ => ⟨fun _ => ⟨_, fun v u => ((k14.ext q15.ext).ext u).cell 0, ⟨(pick_spec x3 120 w15 r3.1 r3.2 (by decide)).mono ?_⟩⟩, fun h => absurd rfl h⟩, fun h => absurd rfl h⟩
    rintro e w16 ⟨rfl, rfl⟩
    rw [hK]
    exact ⟨_, rfl, Ext.refl _, rb (by simp [hi']), x01.trans ((((K9.2.1.trans x11).trans x12).trans x1214).trans q15.ext)⟩
end Go.Proofs.Ytggpomialmpgoaa.V
