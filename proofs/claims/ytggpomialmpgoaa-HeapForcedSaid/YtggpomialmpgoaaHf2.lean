/-
  Law HeapForced: the walk.
-/
import Derived.Test.YtggpomialmpgoaaHf1
namespace Go.Proofs.Ytggpomialmpgoaa.V
open Go Go.RowKit
set_option linter.unusedVariables false
set_option linter.unusedSimpArgs false
set_option maxRecDepth 100000

theorem Fo.due {w : World} {x b g r B n W : Nat} {hn : n ≤ 1000} {fl : List Int} {zero : Bool} {i : Nat} {co cp : Int} {s : Sl} {held : List Nat} (h : Fo w x b g r B n W hn fl zero false i co cp s held) (hroom : (i + 1) * (n + 2) ≤ W) :
    Calls Try.prog 11 #[.pointer (some ⟨x, 0, none⟩), hdV ⟨2, 2, (n : Nat), 0⟩] w fun e w' => e = .returned (.bool (decide ((i : Int) ∈ fl))) ∧ Ext w w' := by
  obtain ⟨f, order, p, A, h1, h2, h3, h4, h5, h6, h7⟩ := h.ex
  refine (due_spec h1 ⟨2, 2, (n : Nat), 0⟩).mono ?_
  rintro e w' ⟨rfl, x'⟩
  refine ⟨?_, x'⟩
  have hm : mayT ⟨2, 2, (n : Nat), 0⟩ = true := decide_eq_true (fO n hn).may
  by_cases hi : (i : Int) ∈ fl
  · rw [dueT_forced hm rfl hi, decide_eq_true hi]
  · rw [dueT_room hm rfl hi, decide_eq_false hi, decide_eq_false]
    have hlen : lenT (fO n hn) = n := fO_len n hn
    have hszo : szQ (fun _ => fO n hn) order = order.length * (n + 2) := by rw [szQ_const, hlen]
    have hmul : order.length * (n + 2) ≤ i * (n + 2) := Nat.mul_le_mul_right _ h4
    have hexp : (i + 1) * (n + 2) = i * (n + 2) + (n + 2) := by rw [Nat.add_mul, Nat.one_mul]
    unfold Ar.left
    dsimp only
    rw [h3, h2.uf, h2.nn]
    omega
theorem heapforced_walk (w : World) (v0 v1 v2 v3 v4 : Value) (x0 : (Par.one (.sl 8 (.cons (.int .i64) .nil))).T) (x1 x2 x3 : Int) (x4 : Bool) (h0 : (Par.one (.sl 8 (.cons (.int .i64) .nil))).Is w v0 x0) (h1 : (Par.one (.int .i64)).Is w v1 x1) (h2 : (Par.one (.int .i64)).Is w v2 x2) (h3 : (Par.one (.int .i64)).Is w v3 x3) (h4 : (Par.one .bool).Is w v4 x4) :
    Calls Try.prog 3 #[v0, v1, v2, v3, v4] w fun e w' => e = .returned (.bool true) ∧ Ext w w' := by
  obtain ⟨rfl, hc, hm, _, fl0, hfl, hfb⟩ := is_ints h0
  obtain ⟨rfl, r1⟩ := h1
  obtain ⟨rfl, r2⟩ := h2
  obtain ⟨rfl, r3⟩ := h3
  obtain rfl : v4 = .bool x4 := h4
  have r1 := wf_i64 r1; have r2 := wf_i64 r2; have r3 := wf_i64 r3
  obtain ⟨forced, ls⟩ := x0
  dsimp only at *
  have hfn := hfl.leni
  refine vc_3 forced x1 x2 x3 x4 _ _ ?_
  simp only [eq_self, false_or, or_false, true_and, and_true, decide_eq_true_eq, decide_eq_false_iff_not, gd_st, gd_sf, exists_eq_left', exists_eq_left, Option.some.injEq, Sl.eta, Nat.reduceLeDiff, Int.reduceLE, Int.reduceLT, Int.reduceEq, Int.reduceNe, Nat.reduceMul, Nat.reduceAdd, Nat.reduceSub, Int.toNat_natCast, beq_iff_eq, bne_iff_ne, beq_eq_false_iff_ne, bne_eq_false_iff_eq, pick_and, pick_or, Bool.and_eq_true, Bool.or_eq_true, Bool.and_eq_false_iff, Bool.or_eq_false_iff, ne_eq, not_false_eq_true, Bool.not_eq_true', Bool.not_eq_false', reduceCtorEq, Nat.le_refl, Nat.zero_mul, Nat.mul_one, Nat.zero_add, Int.reduceToNat, ones, one, add_mk, Decidable.not_not, cond_true, cond_false, true_implies, false_implies, implies_true, Bool.not_true, Bool.not_false]
  refine ⟨(shown_spec w).mono ?_⟩
  rintro e w1 ⟨rfl, x01⟩
  refine ⟨_, rfl, fun w2 n2 => ?_⟩
  have z1 := x01.size; have z2 := n2.size
  refine ⟨fun s w' => ∃ fl : List Int, fl.length ≤ 200 ∧ (∀ m ∈ fl, 0 ≤ m ∧ m < 150) ∧ Own w' w1.heap.size 3 1 s (iv fl) ∧ Ext w1 w', ?_, ?_⟩
  · refine ⟨fun s i w' => ∃ fl : List Int, i = (fl.length : Nat) ∧ fl.length ≤ 200 ∧ fl.length ≤ forced.n ∧ (∀ m ∈ fl, 0 ≤ m ∧ m < 150) ∧ Own w' w1.heap.size 3 1 s (iv fl) ∧ Ext w1 w', fun _ i _ => (200 - i).toNat,
      ⟨[], rfl, by decide, Nat.zero_le _, fun m h => (by cases h), Own.lit (z := 1) (n := 0) (cs := []) n2 (Nat.le_refl _) rfl (by decide), n2.ext⟩, ?_⟩
    rintro _ s i w3 ⟨fl, rfl, hl2, hlf, hb, o3, x3'⟩
    refine ⟨fun hlt => ⟨fun hlt2 => ?_, fun _ => ⟨fl, hl2, hb, o3, x3'⟩⟩, fun _ => ⟨fl, hl2, hb, o3, x3'⟩⟩
    obtain ⟨p, y, hp, hy, hcy⟩ := (hfl.ext (x01.trans x3')).intl fl.length (by omega)
    rw [Nat.mul_one] at hcy
    have hyb := hfb y (List.mem_of_getElem? hy)
    refine ⟨by omega, by omega, p, hp, y, by rw [Int.toNat_natCast]; exact hcy, ⟨(pick_spec y 150 w3 hyb.1 hyb.2 (by decide)).mono ?_⟩⟩
    rintro e w4 ⟨rfl, rfl⟩
    have hpk := pk_lt (c := y) (n := 150) (by decide)
    refine ⟨_, rfl, fun w5 n5 => ?_⟩
    have z3 := x3'.size; have z5 := n5.size
    have h3n := o3.len1
    rw [iv_length] at h3n
    obtain ⟨s', w6, hr6, hn6, o6, u6, c6⟩ := (o3.ext n5.ext).append (t := 22) (ty := 22) tab_ok (by rfl) (by rfl) (by decide) (x := ⟨some ⟨w4.heap.size, 0, none⟩, 1, 1⟩) (news := iv [pk y 150]) ((Blk.new n5).rd (z := 1) (o := 0) (n := 1) (c := 1) (by simp)) (iv_ones _) (by dsimp only; omega) (by dsimp only; omega) (by omega)
    have e1 : IntKind.i64.wrap (((fl.length : Nat) : Int) + 1) = (((fl ++ [pk y 150]).length : Nat) : Int) := by rw [wrap_i64 (by omega) (by omega), List.length_append]; simp
    rw [e1]
    refine ⟨s', w6, hr6, ⟨fl ++ [pk y 150], rfl, by rw [List.length_append, List.length_singleton]; omega, by rw [List.length_append, List.length_singleton]; omega, fun m hm => ?_, by rw [iv_append]; exact o6, (x3'.trans n5.ext).fresh u6 (by rintro i ⟨q, hq, rfl⟩; exact (o3.base q hq).1)⟩, by rw [List.length_append]; dsimp only [List.length]; omega⟩
    rcases List.mem_append.1 hm with hm | hm
    · exact hb m hm
    · rw [List.mem_singleton.1 hm]; exact hpk
  rintro _ s w3 ⟨fl, hl2, hb2, o3, x13⟩
  have z3 := x13.size
  have hsn := o3.len1
  rw [iv_length] at hsn
  refine ⟨(pick_spec x2 10 w3 r2.1 r2.2 (by decide)).mono ?_⟩
  rintro e w4 ⟨rfl, rfl⟩
  have hpk := pk_lt (c := x2) (n := 10) (by decide)
  obtain ⟨n, hn⟩ : ∃ n : Nat, pk x2 10 = n := ⟨(pk x2 10).toNat, by omega⟩
  rw [hn] at hpk ⊢
  have hn9 : n ≤ 9 := by omega
  have hn' : n ≤ 1000 := by omega
  have ew1 : IntKind.i64.wrap ((n : Int) + 2) = ((n + 2 : Nat) : Int) := by rw [wrap_i64 (by omega) (by omega)]; omega
  have ew2 : IntKind.i64.wrap (200 * ((n + 2 : Nat) : Int)) = ((200 * (n + 2) : Nat) : Int) := by rw [wrap_i64 (by omega) (by omega)]; omega
  refine ⟨_, rfl, ?_⟩
  rw [ew1, ew2]
  refine ⟨(newH_spec (by omega) o3.rd x4).mono ?_⟩
  have e0 := newHT_of (n := 200 * (n + 2)) (fl := fl) (zero := x4) (by omega) (by omega) (fun m hm => (hb2 m hm).1)
  rintro e w5 ⟨x45, ⟨hno, _⟩ | ⟨x, b, g, r, H, hH, rfl, hx, hbb, hgg, hrr, H5⟩⟩
  · rw [e0] at hno; cases hno
  rw [e0] at hH
  injection hH with hH; subst hH
  have lt5 := H5.lt; have ap := H5.ap
  have z5 := x45.size
  refine ⟨_, _, rfl, fun _ => ⟨fun _ => ⟨fun _ => ⟨_, rfl, _, H5.hd.cell 0, fun h => (by cases h), fun _ w6 n6 => ⟨by simp [len', wr, splice, rep], HB.can n6, fun w7 s7 => ?_⟩⟩, fun h => absurd rfl h⟩, fun h => (by cases h)⟩, fun h => (by cases h)⟩
  obtain ⟨hb7, x57⟩ := HB.made (h := ⟨2, 2, (n : Nat), 0⟩) n6 s7
  have z57 := x57.size; have l7 := hb7.lt
  have H7 := H5.ext x57
  have hsb := o3.base
  -- what stays
  obtain ⟨B, hBd⟩ : ∃ B, B = w7.heap.size := ⟨_, rfl⟩
  have keep : ∀ {v v' : World} {S : Nat → Prop}, (HB v w5.heap.size ⟨2, 2, (n : Nat), 0⟩ ∧ Rd v 1 s (iv fl) ∧ Ext w1 v ∧ B ≤ v.heap.size) → Upd S v v' → (∀ k, S k → k = b ∨ k = g ∨ k = x ∨ B ≤ k) → (HB v' w5.heap.size ⟨2, 2, (n : Nat), 0⟩ ∧ Rd v' 1 s (iv fl) ∧ Ext w1 v' ∧ B ≤ v'.heap.size) := by
    rintro v v' S ⟨k1, k2, k3, k4⟩ u hS
    have := u.size
    exact ⟨k1.upd u (fun hs => by have := hS _ hs; omega), k2.upd u (fun q hq hs => by have := hS _ hs; have := hsb q hq; omega), k3.fresh u (fun k hk => by have := hS k hk; omega), by omega⟩
  have K7 : HB w7 w5.heap.size ⟨2, 2, (n : Nat), 0⟩ ∧ Rd w7 1 s (iv fl) ∧ Ext w1 w7 ∧ B ≤ w7.heap.size := ⟨hb7, (o3.rd.ext x45).ext x57, (x13.trans x45).trans x57, by omega⟩
  have hBlt : x < B ∧ b < B ∧ g < B ∧ r < B := by omega
  have hK := pk_lt (c := x1) (n := 150) (by decide)
  obtain ⟨K, hKd⟩ : ∃ K : Nat, pk x1 150 = K := ⟨(pk x1 150).toNat, by omega⟩
  rw [hKd] at hK
  have hho := pk_lt (c := x3) (n := 6) (by decide)
  have L0 : Laid (fun _ => fO n hn') 0 (200 * (n + 2)) 0 [] (fun _ => 0) (newA (200 * (n + 2))) := ⟨newA_ok (by omega), rfl, rfl, rfl, fun j h => (by cases h), fun j h => (by cases h), List.nodup_nil, by simp [szQ], fun j h => (by cases h)⟩
  have F0 : Fo w7 x b g r B n (200 * (n + 2)) hn' fl x4 false 0 0 0 ⟨none, 0, 0⟩ [] := ⟨⟨0, [], fun _ => 0, _, H7, L0, by simp [szQ, newA], by simp, fun j h => (by cases h), fun j h => (by cases h), .of_own (.nil ..)⟩, List.nodup_nil⟩
  refine ⟨fun s1 co cp i w' => ∃ (i' : Nat) (held : List Nat), i = (i' : Nat) ∧ i' ≤ K ∧ Fo w' x b g r B n (200 * (n + 2)) hn' fl x4 false i' co cp s1 held ∧ held.length ≤ 6 ∧ (0 ≤ co ∧ co ≤ i') ∧ (0 ≤ cp ∧ cp ≤ i' * 66) ∧ (HB w' w5.heap.size ⟨2, 2, (n : Nat), 0⟩ ∧ Rd w' 1 s (iv fl) ∧ Ext w1 w' ∧ B ≤ w'.heap.size), fun _ _ _ i _ => (K - i).toNat,
    ⟨0, [], rfl, Nat.zero_le _, F0, by simp, by omega, by omega, K7⟩, ?_⟩
  rintro _ s1 co cp i w8 ⟨i', held, rfl, hiK, F8, hh6, hco, hcp, K8⟩
  refine ⟨(pick_spec x1 150 w8 r1.1 r1.2 (by decide)).mono ?_⟩
  rintro e w9 ⟨rfl, rfl⟩
  rw [hKd]
  have ei : IntKind.i64.wrap ((i' : Int) + 1) = ((i' + 1 : Nat) : Int) := by rw [wrap_i64 (by omega) (by omega)]; omega
  have hroom : (i' + 1) * (n + 2) ≤ 200 * (n + 2) := Nat.mul_le_mul_right _ (by omega)
  refine ⟨_, rfl, fun hlt => ?_, fun hge => ?_⟩
  · -- is it named?
    refine ⟨fun bb k w' => ∃ k' : Nat, k = (k' : Nat) ∧ k' ≤ fl.length ∧ bb = decide ((i' : Int) ∈ fl.take k') ∧ w' = w9, fun _ k _ => (fl.length - k).toNat, ⟨0, rfl, Nat.zero_le _, by simp, rfl⟩, ?_⟩
    rintro _ bb k w10 ⟨k', rfl, hk', hbb, rfl⟩
    have ek : IntKind.i64.wrap ((k' : Int) + 1) = ((k' + 1 : Nat) : Int) := by rw [wrap_i64 (by omega) (by omega)]; omega
    rw [ek]
    refine ⟨fun hlt2 => ⟨fun hf => ?_, fun ht => ?_⟩, fun hge2 => ?_⟩
    · obtain ⟨p, y, hp, hy, hcy⟩ := K8.2.1.intl k' (by omega)
      rw [Nat.mul_one] at hcy
      refine ⟨by omega, by omega, p, hp, y, by rw [Int.toNat_natCast]; exact hcy, ⟨k' + 1, rfl, by omega, ?_, rfl⟩, by dsimp only; omega⟩
      rw [hf] at hbb
      have hno := of_decide_eq_false hbb.symm
      rw [take_snoc hy]
      by_cases hy2 : y = (i' : Int)
      · rw [hy2, decide_eq_true (by simp)]; simp
      · rw [decide_eq_false (by rw [List.mem_append]; rintro (h | h); exact hno h; rw [List.mem_singleton] at h; exact hy2 h.symm)]
        simpa using hy2
    · obtain ⟨p, y, hp, hy, hcy⟩ := K8.2.1.intl k' (by omega)
      refine ⟨⟨k' + 1, rfl, by omega, ?_, rfl⟩, by dsimp only; omega⟩
      rw [ht] at hbb
      rw [take_snoc hy, decide_eq_true (List.mem_append_left _ (of_decide_eq_true hbb.symm))]
    rw [List.take_of_length_le (by omega)] at hbb
    subst hbb
    have hbK := K8.1
    refine ⟨_, _, _, _, rfl, ⟨hbK.cell 0, hbK.cell 1, hbK.cell 2, hbK.cell 3⟩, ⟨(F8.due hroom).mono ?_⟩⟩
    rintro e w11 ⟨rfl, x11⟩
    have K11 := keep K8 x11 (fun k (h : False) => h.elim)
    have F11 := F8.ext x11
    refine ⟨_, rfl, fun h => absurd rfl h, fun _ => ?_⟩
    refine ⟨fun s' co' cp' w' => ∃ fresh, Fo w' x b g r B n (200 * (n + 2)) hn' fl x4 fresh i' co' cp' s' held ∧ (0 ≤ co' ∧ co' ≤ i' + 1) ∧ (0 ≤ cp' ∧ cp' ≤ (i' + 1) * 66) ∧ (HB w' w5.heap.size ⟨2, 2, (n : Nat), 0⟩ ∧ Rd w' 1 s (iv fl) ∧ Ext w1 w' ∧ B ≤ w'.heap.size), ⟨fun ht => ⟨?_⟩, fun hf => ⟨false, F11, by omega, by omega, K11⟩⟩, ?_⟩
    · refine (F11.collect (by omega) ⟨hBlt.1, hBlt.2.1, hBlt.2.2.1, hBlt.2.2.2, K11.2.2.2⟩).mono ?_
      rintro e w12 ⟨nb, ls, A', rfl, u12, nb12, hls, hnb, H12, hu, hF⟩
      have K12 := keep K11 u12 (by rintro k (rfl | rfl | rfl) <;> simp)
      have hl12 := F11.lt
      have hmul : held.length * (n + 2) ≤ 6 * (n + 2) := Nat.mul_le_mul_right _ hh6
      have em : IntKind.i64.wrap ((s1.n : Int) * ((n + 2 : Nat) : Int)) = ((held.length * (n + 2) : Nat) : Int) := by
        have e1 : (s1.n : Int) * ((n + 2 : Nat) : Int) = ((held.length * (n + 2) : Nat) : Int) := by
          rw [← hl12.2.2.2.2.1]
          rw [Int.natCast_mul]
        rw [e1, wrap_i64 (by omega) (by omega)]
      refine ⟨⟨some ⟨nb, 0, none⟩, held.length, held.length⟩, _, rfl, fun _ => ⟨fun _ => ⟨_, rfl, _, H12.hd.cell 0, ⟨(used_spec H12.ar).mono ?_⟩⟩, fun hne => absurd (by rw [hl12.2.2.2.2.1]) hne⟩, fun hne => absurd rfl hne⟩
      rintro e w13 ⟨rfl, q13⟩
      have K13 := keep K12 q13.ext (fun k (h : False) => h.elim)
      rw [em, hu]
      refine ⟨_, rfl, fun _ => ⟨_, _, _, _, rfl, ⟨K13.1.cell 0, K13.1.cell 1, K13.1.cell 2, K13.1.cell 3⟩, ⟨(due_spec (H12.ext q13.ext) ⟨2, 2, (n : Nat), 0⟩).mono ?_⟩⟩, fun hne => absurd rfl hne⟩
      rintro e w14 ⟨rfl, x14⟩
      rw [dueT_fresh rfl]
      have K14 := keep K13 x14 (fun k (h : False) => h.elim)
      refine ⟨_, rfl, fun h => (by cases h), fun _ w15 n15 => ?_⟩
      have z15 := n15.size
      have x1215 := (q13.ext.trans x14).trans n15.ext
      have o15 : Own w15 w14.heap.size 35 1 ⟨some ⟨w14.heap.size, 0, none⟩, 0, 0⟩ (uv []) := Own.lit (z := 1) (n := 0) (cs := []) n15 (Nat.le_refl _) rfl (by decide)
      have rd15 : Rd w15 1 ⟨some ⟨nb, 0, none⟩, held.length, held.length⟩ (uv ls) := by
        have := (nb12.ext x1215).words
        rw [hls] at this; exact this
      obtain ⟨s2, w16, hr16, hn16, o16, u16, c16⟩ := o15.append (t := 38) (ty := 38) tab_ok (by rfl) (by rfl) (by decide) rd15 (uv_ones _) (by dsimp only; omega) (by dsimp only; omega) (by omega)
      have x1416 : Ext w14 w16 := n15.ext.fresh u16 (by rintro k ⟨q, hq, rfl⟩; exact (o15.base q hq).1)
      have hBl := K14.2.2.2
      have e1 : IntKind.i64.wrap (co + 1) = co + 1 := wrap_i64 (by omega) (by omega)
      have e2 : IntKind.i64.wrap (cp + ((held.length * (n + 2) : Nat) : Int)) = cp + ((held.length * (n + 2) : Nat) : Int) := wrap_i64 (by omega) (by omega)
      refine ⟨s2, w16, hr16, true, hF w16 s2 ((q13.ext.trans x14).trans x1416) (.of_own (o16.mono hBl)), by rw [e1]; omega, by rw [e2]; omega, keep K14 x1416 (fun k (h : False) => h.elim)⟩
    rintro _ s' co' cp' w12 ⟨fresh, F12, hco', hcp', K12⟩ w13 q13
    have x13' := q13.ext
    have K13 := keep K12 x13' (fun k (h : False) => h.elim)
    have F13 := F12.ext x13'
    refine ⟨fun _ => False, _, _, _, _, rfl, fun v u => ⟨(K13.1.ext u).cell 0, (K13.1.ext u).cell 1, (K13.1.ext u).cell 2, (K13.1.ext u).cell 3⟩, ⟨by omega, by omega, by omega, by omega⟩, fun w14 n14 => ⟨n14.ext, ⟨?_⟩⟩⟩
    have K14 := keep K13 n14.ext (fun k (h : False) => h.elim)
    have z14 := n14.size
    have b14 := Blk.new n14
    rw [zrow_one, Int.toNat_natCast] at b14
    have rd14 : Rd w14 1 ⟨some ⟨w13.heap.size, 0, none⟩, n, n⟩ (uv (List.replicate n 0)) := by
      have e : List.replicate n (Value.int .u64 0) = uv (List.replicate n 0) := by simp [uv]
      rw [e] at b14
      have := b14.words
      rw [List.length_replicate] at this; exact this
    have hBl13 := K13.2.2.2
    rw [Int.toNat_natCast]
    refine ((F13.ext n14.ext).make hroom (by omega) rd14 (by rintro p hp; cases hp; rintro (h | h) <;> (dsimp only at h; omega)) ⟨hBlt.1, hBlt.2.1, hBlt.2.2.1, hBlt.2.2.2, K14.2.2.2⟩).mono ?_
    rintro e w15 ⟨v, rfl, u15, hpush⟩
    have K15 := keep K14 u15 (by rintro k (rfl | rfl | rfl) <;> simp)
    refine ⟨_, _, rfl, fun h => absurd rfl h, fun _ w16 n16 => ?_⟩
    obtain ⟨s3, w17, hr17, hn17, F17, u17, hcap⟩ := hpush w16 n16
    have hb13 : ∀ p, s'.a = some p → B ≤ p.block := fun p hp => by
      obtain ⟨f, order, p', A, _, _, _, _, _, _, h7⟩ := F13.ex
      exact (h7.base p hp).1
    have K17 := keep K15 u17 (by rintro k ⟨q, hq, rfl⟩; have := hb13 q hq; simp [this])
    have hl17 := F17.lt
    have hl13 := F13.lt
    refine ⟨s3, w17, hr17, ⟨(pick_spec x3 6 w17 r3.1 r3.2 (by decide)).mono ?_⟩⟩
    rintro e w18 ⟨rfl, rfl⟩
    rw [ei]
    have hlen' : (held ++ [i']).length = held.length + 1 := by rw [List.length_append, List.length_singleton]
    refine ⟨_, rfl, fun hcut => ⟨by omega, ⟨i' + 1, (held ++ [i']).tail, rfl, by omega, ?_, ?_, by omega, by omega, K17⟩, by dsimp only; omega⟩, fun hno => ⟨⟨i' + 1, held ++ [i'], rfl, by omega, F17, by omega, by omega, by omega, K17⟩, by dsimp only; omega⟩⟩
    · have hnd17 := F17.nd
      obtain ⟨f, order, p', A, h1, h2, h3, h4, h5, h6, h7⟩ := F17.ex
      obtain ⟨y, ys, hys⟩ : ∃ y ys, held ++ [i'] = y :: ys := by
        cases hh : held ++ [i'] with
        | nil => rw [hh] at hlen'; simp at hlen'
        | cons y ys => exact ⟨y, ys, rfl⟩
      rw [hys] at h7 hnd17 h6 ⊢
      exact ⟨⟨f, order, p', A, h1, h2, h3, h4, h5, fun j hj => h6 j (List.mem_cons_of_mem _ hj), h7.tail⟩, (List.nodup_cons.1 hnd17).2⟩
    · rw [List.length_tail, hlen']; omega
  · have hi' : i' = K := by omega
    subst hi'
    obtain ⟨f, order, p', A, H9, _⟩ := F8.ex
    refine ⟨(stats_spec H9).mono ?_⟩
    rintro e w10 ⟨rfl, x10⟩
    refine ⟨_, _, _, rfl, ⟨(pick_spec x1 150 w10 r1.1 r1.2 (by decide)).mono ?_⟩⟩
    rintro e w11 ⟨rfl, rfl⟩
    rw [hKd]
    refine ⟨_, rfl, by simp [len', wr, splice, rep], by simp [len', wr, splice, rep, Sh.V], rb (by simp), x01.trans (K8.2.2.1.trans x10)⟩
end Go.Proofs.Ytggpomialmpgoaa.V
