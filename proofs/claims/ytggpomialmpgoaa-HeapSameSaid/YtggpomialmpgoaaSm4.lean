/-
  Law HeapSame: the walk.
-/
import Derived.Test.YtggpomialmpgoaaSm3
namespace Go.Proofs.Ytggpomialmpgoaa.V
open Go Go.RowKit
set_option linter.unusedVariables false
set_option linter.unusedSimpArgs false
set_option maxRecDepth 100000

/-- all that stays told between the steps: both heaps, what is held in each -/
structure Bt (w : World) (xa ba ga ra xb bb gb rb X B : Nat) (l : List Nd) (Wb : Nat) (fb : List Int) (zb frb : Bool) (i : Nat) (pa pb : Nat → Nat) (ob : List Nat) (s : Sl) : Prop where
  A : Gs w xa ba ga ra l 420 [] false false i (List.range i) pa
  Bh : Gs w xb bb gb rb l Wb fb zb frb i ob pb
  sl : ∀ o ∈ slT l i, ∀ j, o = some j → j ∈ ob
  xs : Blk w X 35 (uv ((slT l i).map (rv pa)))
  ys : Own w B 35 1 s (uv ((slT l i).map (rv pb)))
section
variable {w w' : World} {xa ba ga ra xb bb gb rb X B : Nat} {l : List Nd} {Wb : Nat} {fb : List Int} {zb frb : Bool} {i : Nat} {pa pb : Nat → Nat} {ob : List Nat} {s : Sl} {S : Nat → Prop}
theorem Bt.upd (h : Bt w xa ba ga ra xb bb gb rb X B l Wb fb zb frb i pa pb ob s) (u : Upd S w w') {M : Nat} (hM : w.heap.size ≤ M) (hS : ∀ k, S k → M ≤ k) : Bt w' xa ba ga ra xb bb gb rb X B l Wb fb zb frb i pa pb ob s := by
  have a1 := h.A.blk; have a2 := h.Bh.blk; have a3 := h.xs.lt; have a4 := h.ys.base
  have no : ∀ k, k < w.heap.size → ¬ S k := fun k hk hs => by have := hS k hs; omega
  exact ⟨h.A.upd u (no _ a1.1) (no _ a1.2.1) (no _ a1.2.2.1) (no _ a1.2.2.2), h.Bh.upd u (no _ a2.1) (no _ a2.2.1) (no _ a2.2.2.1) (no _ a2.2.2.2), h.sl, h.xs.upd u (no _ a3), h.ys.upd u fun q hq => no _ (a4 q hq).2⟩
theorem Bt.ext (h : Bt w xa ba ga ra xb bb gb rb X B l Wb fb zb frb i pa pb ob s) (u : Ext w w') : Bt w' xa ba ga ra xb bb gb rb X B l Wb fb zb frb i pa pb ob s :=
  ⟨h.A.ext u, h.Bh.ext u, h.sl, h.xs.ext u, h.ys.ext u⟩
end
set_option maxHeartbeats 1000000 in
theorem heapsame_walk (w : World) (v0 v1 v2 v3 : Value) (x0 : (Par.one (.sl 40 NdR)).T) (x1 : (Par.one (.sl 8 (.cons (.int .i64) .nil))).T) (x2 : Int) (x3 : Bool) (h0 : (Par.one (.sl 40 NdR)).Is w v0 x0) (h1 : (Par.one (.sl 8 (.cons (.int .i64) .nil))).Is w v1 x1) (h2 : (Par.one (.int .i64)).Is w v2 x2) (h3 : (Par.one .bool).Is w v3 x3) :
    Calls Try.prog 6 #[v0, v1, v2, v3] w fun e w' => e = .returned (.bool true) ∧ Ext w w' := by
  obtain ⟨rfl, hc0, hm0, l0, hnds0⟩ := nds_is h0
  obtain ⟨rfl, hc, hm, _, fl0, hfl, hfb⟩ := is_ints h1
  obtain ⟨rfl, r2⟩ := h2
  obtain rfl : v3 = .bool x3 := h3
  have r2 := wf_i64 r2
  obtain ⟨nodes, ls0⟩ := x0
  obtain ⟨forced, ls⟩ := x1
  dsimp only at *
  have hfn := hfl.leni
  refine vc_6 nodes forced x2 x3 _ _ ?_
  simp only [eq_self, false_or, or_false, true_and, and_true, decide_eq_true_eq, decide_eq_false_iff_not, gd_st, gd_sf, exists_eq_left', exists_eq_left, Option.some.injEq, Sl.eta, Nat.reduceLeDiff, Int.reduceLE, Int.reduceLT, Int.reduceEq, Int.reduceNe, Nat.reduceMul, Nat.reduceAdd, Nat.reduceSub, Int.toNat_natCast, beq_iff_eq, bne_iff_ne, beq_eq_false_iff_ne, bne_eq_false_iff_eq, pick_and, pick_or, Bool.and_eq_true, Bool.or_eq_true, Bool.and_eq_false_iff, Bool.or_eq_false_iff, ne_eq, not_false_eq_true, Bool.not_eq_true', Bool.not_eq_false', reduceCtorEq, Nat.le_refl, Nat.zero_mul, Nat.mul_one, Nat.zero_add, Int.reduceToNat, ones, one, add_mk, Decidable.not_not, cond_true, cond_false, true_implies, false_implies, implies_true, Bool.not_true, Bool.not_false]
  refine ⟨(shown_spec w).mono ?_⟩
  rintro e w1 ⟨rfl, x01⟩
  refine ⟨_, rfl, fun s' w' => w' = w1 ∧ ∃ l, NdsIs w s' l ∧ l.length ≤ 60, ⟨fun h => ⟨by omega, rfl, l0.take 60, hnds0.cut (by omega), by rw [List.length_take]; omega⟩, fun h => ⟨rfl, l0, hnds0, by have := hnds0.n; omega⟩⟩, ?_⟩
  rintro _ s w2 ⟨rfl, l, hnds, hN⟩
  have hsn := hnds.n
  intro w3 n3
  have z1 := x01.size; have z3 := n3.size
  refine ⟨fun s w' => ∃ fl : List Int, fl.length ≤ 100 ∧ (∀ m ∈ fl, 0 ≤ m ∧ m < 60) ∧ Own w' w2.heap.size 3 1 s (iv fl) ∧ Ext w2 w', ?_, ?_⟩
  · refine ⟨fun s i w' => ∃ fl : List Int, i = (fl.length : Nat) ∧ fl.length ≤ 100 ∧ fl.length ≤ forced.n ∧ (∀ m ∈ fl, 0 ≤ m ∧ m < 60) ∧ Own w' w2.heap.size 3 1 s (iv fl) ∧ Ext w2 w', fun _ i _ => (100 - i).toNat,
      ⟨[], rfl, by decide, Nat.zero_le _, fun m h => (by cases h), Own.lit (z := 1) (n := 0) (cs := []) n3 (Nat.le_refl _) rfl (by decide), n3.ext⟩, ?_⟩
    rintro _ s i w4 ⟨fl, rfl, hl2, hlf, hb, o3, x3'⟩
    refine ⟨fun hlt => ⟨fun hlt2 => ?_, fun _ => ⟨fl, hl2, hb, o3, x3'⟩⟩, fun _ => ⟨fl, hl2, hb, o3, x3'⟩⟩
    obtain ⟨p, y, hp, hy, hcy⟩ := (hfl.ext (x01.trans x3')).intl fl.length (by omega)
    rw [Nat.mul_one] at hcy
    have hyb := hfb y (List.mem_of_getElem? hy)
    refine ⟨by omega, by omega, p, hp, y, by rw [Int.toNat_natCast]; exact hcy, ⟨(pick_spec y 60 w4 hyb.1 hyb.2 (by decide)).mono ?_⟩⟩
    rintro e w5 ⟨rfl, rfl⟩
    have hpk := pk_lt (c := y) (n := 60) (by decide)
    refine ⟨_, rfl, fun w6 n6 => ?_⟩
    have z3 := x3'.size; have z5 := n6.size
    have h3n := o3.len1
    rw [iv_length] at h3n
    obtain ⟨s', w7, hr6, hn6, o6, u6, c6⟩ := (o3.ext n6.ext).append (t := 22) (ty := 22) tab_ok (by rfl) (by rfl) (by decide) (x := ⟨some ⟨w5.heap.size, 0, none⟩, 1, 1⟩) (news := iv [pk y 60]) ((Blk.new n6).rd (z := 1) (o := 0) (n := 1) (c := 1) (by simp)) (iv_ones _) (by dsimp only; omega) (by dsimp only; omega) (by omega)
    have e1 : IntKind.i64.wrap (((fl.length : Nat) : Int) + 1) = (((fl ++ [pk y 60]).length : Nat) : Int) := by rw [wrap_i64 (by omega) (by omega), List.length_append]; simp
    rw [e1]
    refine ⟨s', w7, hr6, ⟨fl ++ [pk y 60], rfl, by rw [List.length_append, List.length_singleton]; omega, by rw [List.length_append, List.length_singleton]; omega, fun m hm => ?_, by rw [iv_append]; exact o6, (x3'.trans n6.ext).fresh u6 (by rintro i ⟨q, hq, rfl⟩; exact (o3.base q hq).1)⟩, by rw [List.length_append]; dsimp only [List.length]; omega⟩
    rcases List.mem_append.1 hm with hm | hm
    · exact hb m hm
    · rw [List.mem_singleton.1 hm]; exact hpk
  rintro _ sf w4 ⟨fl, hl2, hb2, o4, x24⟩
  have z4 := x24.size
  refine ⟨(newH_spec (n := 420) (by decide) (l := ⟨none, 0, 0⟩) (fl := []) (Rd.nil _ _ _ _) false).mono ?_⟩
  have e0 : newHT 420 [] false = some ⟨newA 420, [], false, false, 0, 0, 0⟩ := newHT_of (n := 420) (by decide) (by decide) (fun m h => by cases h)
  rintro e w5 ⟨x45, ⟨hno, _⟩ | ⟨xa, ba, ga, ra, H, hH, rfl, ha1, ha2, ha3, ha4, H5⟩⟩
  · rw [e0] at hno; cases hno
  rw [e0] at hH
  injection hH with hH; subst hH
  have lt5 := H5.lt
  have z5 := x45.size
  refine ⟨_, _, rfl, ⟨(pick_spec x2 30 w5 r2.1 r2.2 (by decide)).mono ?_⟩⟩
  rintro e w6 ⟨rfl, rfl⟩
  have hpk := pk_lt (c := x2) (n := 30) (by decide)
  obtain ⟨sp, hsp⟩ : ∃ sp : Nat, pk x2 30 = sp := ⟨(pk x2 30).toNat, by omega⟩
  obtain ⟨W, hW⟩ : ∃ W, 7 * s.n + sp = W := ⟨_, rfl⟩
  have eW : IntKind.i64.wrap (IntKind.i64.wrap (7 * (s.n : Int)) + (sp : Int)) = (W : Nat) := by
    rw [wrap_i64 (n := 7 * (s.n : Int)) (by omega) (by omega), wrap_i64 (by omega) (by omega)]; omega
  refine ⟨_, rfl, ?_⟩
  rw [hsp, eW]
  refine ⟨(newH_spec (by omega) (o4.rd.ext x45) x3).mono ?_⟩
  have e1 := newHT_of (n := W) (fl := fl) (zero := x3) (by omega) (by omega) (fun m hm => (hb2 m hm).1)
  rintro e w7 ⟨x67, ⟨hno, _⟩ | ⟨xb, bb, gb, rb', H, hH, rfl, hb1, hb2', hb3, hb4, H7⟩⟩
  · rw [e1] at hno; cases hno
  rw [e1] at hH
  injection hH with hH; subst hH
  have lt7 := H7.lt
  have z7 := x67.size
  have H5' := H5.ext x67
  refine ⟨_, _, rfl, fun _ => ⟨fun _ => ⟨fun _ => ⟨fun _ => ⟨fun _ => ⟨_, rfl, _, H5'.hd.cell 0, fun _ => ⟨_, rfl, _, H7.hd.cell 0, fun h => (by cases h), fun _ => ⟨by decide, fun w8 n8 => ⟨by decide, fun w9 n9 => ?_⟩⟩⟩, fun h => (by cases h)⟩, fun h => absurd rfl h⟩, fun h => absurd rfl h⟩, fun h => (by cases h)⟩, fun h => (by cases h)⟩, fun h => (by cases h)⟩
  have z8 := n8.size; have z9 := n9.size
  have x79 := n8.ext.trans n9.ext
  have x29 := ((x24.trans x45).trans x67).trans x79
  obtain ⟨X, hX⟩ : ∃ X, X = w7.heap.size := ⟨_, rfl⟩
  obtain ⟨B, hB⟩ : ∃ B, B = w8.heap.size := ⟨_, rfl⟩
  have bX : Blk w9 X 35 (uv ((slT l 0).map (rv fun _ => 0))) := by rw [hX]; exact (Blk.new n8).ext n9.ext
  have L0 : ∀ W', W' ≤ 65536 → Laid (tN l) 0 W' 0 (List.range 0) (pNew (tN l) 0 (List.range 0)) (newA W') := fun W' hW' => ⟨newA_ok hW', rfl, rfl, rfl, fun j h => (by cases h), fun j h => (by cases h), List.nodup_nil, by simp [szQ], fun j h => (by cases h)⟩
  have rv0 : ∀ (p : Nat → Nat), (slT l 0).map (rv p) = [0, 0, 0, 0, 0] := fun p => rfl
  have Bt9 : Bt w9 xa ba ga ra xb bb gb rb' X B l W fl x3 false 0 (pNew (tN l) 0 (List.range 0)) (pNew (tN l) 0 (List.range 0)) (List.range 0) ⟨some ⟨w8.heap.size, 0, none⟩, 5, 5⟩ := by
    refine ⟨⟨⟨0, _, _, _, rfl, H5'.ext x79, L0 420 (by decide), by simp [szQ, newA]⟩, fun j h => (by cases h)⟩, ⟨⟨0, _, _, _, rfl, H7.ext x79, L0 W (by omega), by simp [szQ, newA]⟩, fun j h => (by cases h)⟩, fun o ho j hj => by have := slT_lt l 0 o ho j hj; omega, by rw [rv0]; rw [rv0] at bX; exact bX, ?_⟩
    rw [rv0]
    exact Own.lit (z := 1) (n := 5) n9 (by omega) rfl (by decide)
  have hMa := lt5
  refine ⟨fun s2 i w' => ∃ (i' : Nat) (pa pb : Nat → Nat) (ob : List Nat), i = (i' : Nat) ∧ i' ≤ l.length ∧ Bt w' xa ba ga ra xb bb gb rb' X B l W fl x3 false i' pa pb ob s2 ∧ Ext w2 w', fun _ i _ => (l.length - i).toNat, ⟨0, _, _, _, rfl, Nat.zero_le _, by subst hB; exact Bt9, x29⟩, ?_⟩
  rintro _ s2 i w10 ⟨i', pa, pb, ob, rfl, hi, T10, x210⟩
  have ei : IntKind.i64.wrap ((i' : Int) + 1) = ((i' + 1 : Nat) : Int) := by rw [wrap_i64 (by omega) (by omega)]; omega
  have z10 := x210.size
  have hXlt := T10.xs.lt
  refine ⟨fun hlt => ?_, fun hge => ?_⟩
  · obtain ⟨t, ht⟩ : ∃ t, l[i']? = some t := ⟨_, List.getElem?_eq_getElem (by omega)⟩
    have eT := ndAt_eq ht
    obtain ⟨p, m, hp, htn, htb, hpl, hcs⟩ := (hnds.at_ i' t ht).ex
    have hmn := (hcs w (Ext.refl _)).2.leni
    have ekk : (if 4 < (m.n : Int) then (4 : Int) else (m.n : Int)) = ((kN t : Nat) : Int) := by rw [min4]; unfold kN; rw [hmn]
    have hk4 : kN t ≤ 4 := by unfold kN; omega
    have hkm : kN t ≤ m.n := by unfold kN; omega
    refine ⟨by omega, by omega, p, hp, _, m, _, rfl, by rw [Int.toNat_natCast]; exact (hcs w10 (x01.trans x210)).1, fun w11 n11 => ⟨rfl, (Blk.new n11).canSetN 0 3 (by simp), fun w12 s12 => ?_⟩⟩
    have bN := s12.blk (Blk.new n11)
    simp only [setsL, List.set] at bN
    have x1012 : Ext w10 w12 := n11.ext.fresh s12.upd (by rintro i rfl; exact Nat.le_refl _)
    have z11 := n11.size; have z12 := s12.size
    have ekw : IntKind.u64.wrap ((kN t : Nat) : Int) = (kN t : Nat) := wrap_u64 (by omega) (by omega)
    have ek1 : IntKind.i64.wrap (((kN t : Nat) : Int) + 1) = ((kN t + 1 : Nat) : Int) := by rw [wrap_i64 (by omega) (by omega)]; omega
    have hp2 : 2 ^ kN t ≤ 2 ^ 4 := Nat.pow_le_pow_right (by omega) hk4
    have hp0 : 0 < 2 ^ kN t := Nat.pow_pos (by decide)
    have esh : shlV .u64 (IntKind.u64.wrap (shlV .u64 1 ((kN t : Nat) : Int) - 1)) 1 = (((2 ^ kN t - 1) * 2 : Nat) : Int) := by
      rw [shl_one (by omega), show ((2 ^ kN t : Nat) : Int) - 1 = ((2 ^ kN t - 1 : Nat) : Int) by omega, wrap_u64 (by omega) (by omega)]
      rw [show (1 : Int) = ((1 : Nat) : Int) from rfl, shl_u64 _ _ (by omega), Nat.pow_one, Nat.mod_eq_of_lt (by omega)]
    refine ⟨m, bN.cell 1, ?_⟩
    rw [ekk, ekw, ek1, esh]
    refine ⟨by omega, by simp [len', wr, splice, rep], fun w13 n13 => ⟨by simp [len', wr, splice, rep], HB.can n13, fun w14 s14 => ?_⟩⟩
    obtain ⟨hb14, x1214⟩ := HB.made (h := hdN (kN t)) n13 s14
    have z14 := x1214.size; have l14 := hb14.lt
    have bN14 := bN.ext x1214
    have T14 := (T10.ext x1012).ext x1214
    have x214 := (x210.trans x1012).trans x1214
    -- collected, if it is due
    obtain ⟨M, hM⟩ : ∃ M, M = w14.heap.size := ⟨_, rfl⟩
    refine ⟨fun s3 w' => ∃ (fr : Bool) (pb' : Nat → Nat) (ob' : List Nat), Bt w' xa ba ga ra xb bb gb rb' X B l W fl x3 fr i' pa pb' ob' s3 ∧ Blk w' w10.heap.size 57 [.int .u64 (t.n : Nat), .slice m.a m.n m.c, .int .i64 t.pl] ∧ HB w' w12.heap.size (hdN (kN t)) ∧ Ext w2 w' ∧ M ≤ w'.heap.size, ?_, ?_⟩
    · refine ⟨_, _, _, _, rfl, ⟨hb14.cell 0, hb14.cell 1, hb14.cell 2, hb14.cell 3⟩, ⟨?_⟩⟩
      have hdue := T14.Bh.due
      rw [eT] at hdue
      refine hdue.mono ?_
      rintro e w15 ⟨bb', rfl, x15⟩
      have T15 := T14.ext x15
      have z15 := x15.size
      refine ⟨_, rfl, fun _ => ⟨?_⟩, fun _ => ⟨false, pb, ob, T15, bN14.ext x15, hb14.ext x15, x214.trans x15, by omega⟩⟩
      have a2 := T15.Bh.blk
      have hsb := T15.ys.base
      have hys := T15.ys.len1
      rw [uv_length, List.length_map, slT_len] at hys
      refine (T15.Bh.collect (roots := slT l i') (by rw [slT_len]; omega) T15.sl T15.ys.rd (fun q hq => by have := hsb q hq; omega)).mono ?_
      rintro e w16 ⟨nb, ob', pb', rfl, Bh16, hro, nb16, hnb, u16⟩
      have z16 := u16.size
      rw [slT_len]
      have A16 := T15.A.upd u16 (by omega) (by omega) (by omega) (by omega)
      have X16 := T15.xs.upd u16 (by omega)
      have bN16 := (bN14.ext x15).upd u16 (by omega)
      have hb16 := (hb14.ext x15).upd u16 (by omega)
      have x216 : Ext w2 w16 := (x214.trans x15).fresh u16 (by rintro k (rfl | rfl | rfl) <;> omega)
      refine ⟨⟨some ⟨nb, 0, none⟩, 5, 5⟩, _, rfl, fun _ => ⟨fun hne => absurd (by show ((5 : Nat) : Int) = (s2.n : Int); omega) hne, fun _ w17 n17 => ?_⟩, fun hne => absurd rfl hne⟩
      have z17 := n17.size
      have o17 : Own w17 w16.heap.size 35 1 ⟨some ⟨w16.heap.size, 0, none⟩, 0, 0⟩ (uv []) := Own.lit (z := 1) (n := 0) (cs := []) n17 (Nat.le_refl _) rfl (by decide)
      have rd17 : Rd w17 1 ⟨some ⟨nb, 0, none⟩, 5, 5⟩ (uv ((slT l i').map (rv pb'))) := by
        have := (nb16.ext n17.ext).words
        rw [List.length_map, slT_len] at this; exact this
      obtain ⟨s3, w18, hr18, hn18, o18, u18, c18⟩ := o17.append (t := 38) (ty := 38) tab_ok (by rfl) (by rfl) (by decide) rd17 (uv_ones _) (by dsimp only; omega) (by dsimp only; omega) (by omega)
      have x1618 : Ext w16 w18 := n17.ext.fresh u18 (by rintro k ⟨q, hq, rfl⟩; exact (o17.base q hq).1)
      have z18 := x1618.size
      exact ⟨s3, w18, hr18, true, pb', ob', ⟨A16.ext x1618, Bh16.ext x1618, hro, X16.ext x1618, o18.mono (by omega)⟩, bN16.ext x1618, hb16.ext x1618, x216.trans x1618, by omega⟩
    rintro _ s3 w15 ⟨fr, pb', ob', T15, bN15, hb15, x215, hM15⟩
    have hXl := T15.xs.lt
    have a1 := T15.A.blk; have a2 := T15.Bh.blk
    have hyb := T15.ys.base
    have hys := T15.ys.len1
    rw [uv_length, List.length_map, slT_len] at hys
    refine ⟨_, bN15.cell 0, fun w16 n16 => ⟨_, (bN15.ext n16.ext).cell 0, fun w17 n17 => ?_⟩⟩
    have z16 := n16.size; have z17 := n17.size
    have x1517 := n16.ext.trans n17.ext
    have e0c : csN l i' pa 0 = [t.n] := by rw [csN_zero, eT]
    have e0d : csN l i' pb' 0 = [t.n] := by rw [csN_zero, eT]
    -- the cells of both
    refine ⟨fun s4 s5 c w' => ∃ jj : Nat, c = (jj : Nat) ∧ jj ≤ kN t ∧ Own w' w15.heap.size 35 1 s4 (uv (csN l i' pa jj)) ∧ Own w' w15.heap.size 35 1 s5 (uv (csN l i' pb' jj)) ∧ (∀ p q, s4.a = some p → s5.a = some q → p.block ≠ q.block) ∧ Ext w15 w', fun _ _ c _ => (kN t - c).toNat,
      ⟨0, rfl, Nat.zero_le _, by rw [e0c]; exact (Own.lit (z := 1) (n := 1) (cs := [.int .u64 (t.n : Nat)]) n16 (Nat.le_refl _) rfl (by decide)).ext n17.ext, by rw [e0d]; exact Own.lit (z := 1) (n := 1) (cs := [.int .u64 (t.n : Nat)]) n17 (by omega) rfl (by decide), fun p q hp hq => by cases hp; cases hq; dsimp only; omega, x1517⟩, ?_⟩
    rintro _ s4 s5 c w18 ⟨jj, rfl, hjj, o4', o5, hne, x18⟩
    have z18 := x18.size
    have ejj : IntKind.i64.wrap ((jj : Int) + 1) = ((jj + 1 : Nat) : Int) := by rw [wrap_i64 (by omega) (by omega)]; omega
    rw [ejj, ei]
    refine ⟨fun hlt2 => ?_, fun hge2 => ?_⟩
    · have T18 := T15.ext x18
      obtain ⟨pm, y, hpm, hy, hcy⟩ := ((hcs w18 (x01.trans (x215.trans x18))).2).intl jj (by omega)
      rw [Nat.mul_one] at hcy
      have hyb' := htb y (List.mem_of_getElem? hy)
      have hyd : t.ns.getD jj 0 = y := by rw [List.getD_eq_getElem?_getD, hy]; rfl
      have enm : nmN l i' (jj + 1) = (slT l i').getD (pk5 y) none := by rw [nm_slot, eT, hyd]
      have hp5 := pk5_lt y
      refine ⟨m, (bN15.ext x18).cell 1, by omega, by omega, pm, hpm, y, by rw [Int.toNat_natCast]; exact hcy, ⟨(pick_spec y 5 w18 hyb'.1 hyb'.2 (by decide)).mono ?_⟩⟩
      rintro e w19 ⟨rfl, rfl⟩
      rw [← hp5.2]
      have hcx : w19.cell? ⟨X, pk5 y, none⟩ = some (.int .u64 ((rv pa ((slT l i').getD (pk5 y) none) : Nat) : Int)) := by
        rw [T18.xs.cell]
        unfold uv
        rw [List.getElem?_map, slot_at hp5.1]; rfl
      subst hX
      refine ⟨_, rfl, by omega, by omega, _, by rw [Int.toNat_natCast]; exact hcx, fun w20 n20 => ?_⟩
      have z20 := n20.size
      have h4n := o4'.len1; have h5n := o5.len1
      rw [uv_length, csN_len] at h4n h5n
      obtain ⟨s4', w21, hr21, hn21, o21, u21, c21⟩ := (o4'.ext n20.ext).append (t := 38) (ty := 38) tab_ok (by rfl) (by rfl) (by decide) (x := ⟨some ⟨w19.heap.size, 0, none⟩, 1, 1⟩) (news := uv [rv pa ((slT l i').getD (pk5 y) none)]) ((Blk.new n20).rd (z := 1) (o := 0) (n := 1) (c := 1) (by simp)) (uv_ones _) (by dsimp only; omega) (by dsimp only; omega) (by omega)
      have hb4' := fun p hp => o4'.base p hp
      have hb5' := fun p hp => o5.base p hp
      have hS4 : ∀ k, (∃ p, s4.a = some p ∧ k = p.block) → w15.heap.size ≤ k := by rintro k ⟨q', hq', rfl⟩; exact (hb4' q' hq').1
      have x1521 : Ext w15 w21 := (x18.trans n20.ext).fresh u21 hS4
      have z21 := u21.size
      have T21 := T15.ext x1521
      obtain ⟨pm', y', hpm', hy', hcy'⟩ := ((hcs w21 (x01.trans (x215.trans x1521))).2).intl jj (by omega)
      rw [hpm] at hpm'; injection hpm' with hpm'; subst hpm'
      rw [hy] at hy'; injection hy' with hy'; subst hy'
      rw [Nat.mul_one] at hcy'
      refine ⟨s4', w21, hr21, m, (bN15.ext x1521).cell 1, by omega, by omega, pm, hpm, y, by rw [Int.toNat_natCast]; exact hcy', ⟨(pick_spec y 5 w21 hyb'.1 hyb'.2 (by decide)).mono ?_⟩⟩
      rintro e w22 ⟨rfl, rfl⟩
      rw [← hp5.2]
      obtain ⟨py, yv, hpy, hyv, hcyv⟩ := T21.ys.rd.word (pk5 y) (by omega)
      rw [slot_at hp5.1] at hyv
      injection hyv with hyv; subst hyv
      rw [Nat.mul_one] at hcyv
      refine ⟨_, rfl, by omega, by omega, py, hpy, _, by rw [Int.toNat_natCast]; exact hcyv, fun w23 n23 => ?_⟩
      have z23 := n23.size
      have o5' := ((o5.ext n20.ext).upd u21 (fun q hq ⟨p, hp, e⟩ => hne p q hp hq e.symm)).ext n23.ext
      obtain ⟨s5', w24, hr24, hn24, o24, u24, c24⟩ := o5'.append (t := 38) (ty := 38) tab_ok (by rfl) (by rfl) (by decide) (x := ⟨some ⟨w22.heap.size, 0, none⟩, 1, 1⟩) (news := uv [rv pb' ((slT l i').getD (pk5 y) none)]) ((Blk.new n23).rd (z := 1) (o := 0) (n := 1) (c := 1) (by simp)) (uv_ones _) (by dsimp only; omega) (by dsimp only; omega) (by omega)
      have hS5 : ∀ k, (∃ p, s5.a = some p ∧ k = p.block) → w15.heap.size ≤ k := by rintro k ⟨q', hq', rfl⟩; exact (hb5' q' hq').1
      have hb21 := fun p hp => o21.base p hp
      have hne' : ∀ p q, s4'.a = some p → s5.a = some q → p.block ≠ q.block := fun p q hp hq => by
        rcases c21 p hp with h | h
        · exact hne p q h hq
        · have := hb5' q hq; omega
      refine ⟨s5', w24, hr24, ⟨jj + 1, rfl, by omega, ?_, ?_, fun p q hp hq => ?_, (x1521.trans n23.ext).fresh u24 hS5⟩, by dsimp only; omega⟩
      · rw [csN_succ, enm, uv_append]
        exact (o21.ext n23.ext).upd u24 (fun p hp ⟨q, hq, e⟩ => hne' p q hp hq e)
      · rw [csN_succ, enm, uv_append]
        exact o24
      · rcases c24 q hq with h | h
        · exact hne' p q hp h
        · have := hb21 p hp; omega
    have hjk : jj = kN t := by omega
    subst hjk
    have T18 := T15.ext x18
    have hb18 := hb15.ext x18
    have bN18 := bN15.ext x18
    have h4b := fun p hp => o4'.base p hp
    have h5b := fun p hp => o5.base p hp
    refine ⟨_, _, _, _, rfl, ⟨hb18.cell 0, hb18.cell 1, hb18.cell 2, hb18.cell 3⟩, ⟨?_⟩⟩
    have mk1 := T18.A.make (cs := csN l i' pa (kN t)) (sz := s4) (by omega) (by omega) (fun o ho j hj => List.mem_range.2 (slT_lt l i' o ho j hj)) (by rw [csN_len, eT]) (fun a ha => by rw [eT] at ha; exact csN_at ha) (by rw [eT]; exact htn) o4'.rd (fun q hq => by have := h4b q hq; rintro (e | e) <;> omega)
    rw [eT] at mk1
    refine mk1.mono ?_
    rintro e w19 ⟨pa2, rfl, A19, hag, u19⟩
    have z19 := u19.size
    have Bh19 := T18.Bh.upd u19 (by omega) (by omega) (by omega) (by omega)
    have hb19 := hb18.upd u19 (by omega)
    have bN19 := bN18.upd u19 (by omega)
    have X19 := T18.xs.upd u19 (by omega)
    have y19 := T18.ys.upd u19 (fun q hq e => by have := hyb q hq; omega)
    have o519 := o5.upd u19 (fun q hq e => by have := h5b q hq; omega)
    refine ⟨_, _, rfl, _, _, _, _, rfl, ⟨hb19.cell 0, hb19.cell 1, hb19.cell 2, hb19.cell 3⟩, ⟨?_⟩⟩
    have mk2 := Bh19.make (cs := csN l i' pb' (kN t)) (sz := s5) (by omega) (by omega) T15.sl (by rw [csN_len, eT]) (fun a ha => by rw [eT] at ha; exact csN_at ha) (by rw [eT]; exact htn) o519.rd (fun q hq => by have := h5b q hq; rintro (e | e) <;> omega)
    rw [eT] at mk2
    refine mk2.mono ?_
    rintro e w20 ⟨pb2, rfl, Bh20, hagb, u20⟩
    have z20 := u20.size
    have A20 := A19.upd u20 (by omega) (by omega) (by omega) (by omega)
    have bN20 := bN19.upd u20 (by omega)
    have X20 := X19.upd u20 (by omega)
    have y20 := y19.upd u20 (fun q hq e => by have := hyb q hq; omega)
    have x220 : Ext w2 w20 := ((x215.trans x18).fresh u19 (by rintro k (rfl | rfl | rfl) <;> omega)).fresh u20 (by rintro k (rfl | rfl | rfl) <;> omega)
    have hp5 := pk5_lt t.pl
    refine ⟨_, _, rfl, fun _ => ⟨fun hh => absurd rfl hh, fun _ => ⟨_, bN20.cell 2, ⟨(pick_spec t.pl 5 w20 hpl.1 hpl.2 (by decide)).mono ?_⟩⟩⟩, fun hh => absurd rfl hh⟩
    rintro e w21 ⟨rfl, rfl⟩
    rw [← hp5.2]
    have hlX : (uv ((slT l i').map (rv pa))).length = 5 := by rw [uv_length, List.length_map, slT_len]
    subst hX
    refine ⟨_, rfl, by omega, by omega, by rw [Int.toNat_natCast]; exact X20.canSet _ (by rw [hlX]; exact hp5.1), fun w22 s22 => ?_⟩
    rw [Int.toNat_natCast] at s22
    have u22 : Upd (fun k => k = w7.heap.size) w21 w22 := s22.upd
    have X22 := s22.blk1 X20
    rw [uv_set] at X22
    have exs := slots_next (l := l) (i := i') (p := pa) (p' := pa2) (fun o ho => rv_agree hag (fun j hj => List.mem_range.2 (slT_lt l i' o ho j hj)))
    rw [eT] at exs
    rw [exs] at X22
    have z22 := u22.size
    have bN22 := bN20.upd u22 (by omega)
    have y22 := y20.upd u22 (fun q hq e => by have := hyb q hq; omega)
    refine ⟨_, bN22.cell 2, ⟨(pick_spec t.pl 5 w22 hpl.1 hpl.2 (by decide)).mono ?_⟩⟩
    rintro e w23 ⟨rfl, rfl⟩
    rw [← hp5.2]
    obtain ⟨py, yv, hpy, _, _⟩ := y22.rd.word (pk5 t.pl) (by omega)
    refine ⟨_, rfl, by omega, by omega, py, hpy, by rw [Int.toNat_natCast]; exact y22.canAt hpy (by omega), fun w24 s24 => ?_⟩
    rw [Int.toNat_natCast] at s24
    obtain ⟨y24, u24⟩ := y22.setAt hpy (by omega) s24
    rw [uv_set] at y24
    have eys := slots_next (l := l) (i := i') (p := pb') (p' := pb2) (fun o ho => rv_agree hagb (T15.sl o ho))
    rw [eT] at eys
    rw [eys] at y24
    have z24 := u24.size
    have hpyb := hyb py hpy
    have A24 := (A20.upd u22 (by omega) (by omega) (by omega) (by omega)).upd u24 (by omega) (by omega) (by omega) (by omega)
    have Bh24 := (Bh20.upd u22 (by omega) (by omega) (by omega) (by omega)).upd u24 (by omega) (by omega) (by omega) (by omega)
    have X24 := X22.upd u24 (by omega)
    have x224 : Ext w2 w24 := (x220.fresh u22 (by rintro k rfl; omega)).fresh u24 (by rintro k rfl; omega)
    have hsl2 : ∀ o ∈ slT l (i' + 1), ∀ j, o = some j → j ∈ ob' ++ [i'] := fun o ho j hj => by
      have ho' : o ∈ (slT l i').set (pk5 (ndAt l i').pl) (some i') := ho
      rcases List.mem_or_eq_of_mem_set ho' with h | h
      · exact List.mem_append_left _ (T15.sl o h j hj)
      · rw [h] at hj; injection hj with hj; subst hj; simp
    have T24 : Bt w24 xa ba ga ra xb bb gb rb' w7.heap.size B l W fl x3 false (i' + 1) pa2 pb2 (ob' ++ [i']) s3 := ⟨by rw [List.range_succ]; exact A24, Bh24, hsl2, X24, y24⟩
    -- the same ones are the same
    refine ⟨fun c w' => ∃ c' : Nat, c = (c' : Nat) ∧ c' ≤ 5 ∧ Ext w24 w', fun c _ => (5 - c).toNat, ⟨0, rfl, by decide, Ext.refl _⟩, ?_⟩
    rintro _ c w25 ⟨c', rfl, hc5, x25⟩
    have ec : IntKind.i64.wrap ((c' : Int) + 1) = ((c' + 1 : Nat) : Int) := by rw [wrap_i64 (by omega) (by omega)]; omega
    rw [ec]
    refine ⟨fun hlt5 => ?_, fun hge5 => ⟨⟨i' + 1, pa2, pb2, ob' ++ [i'], rfl, by omega, T24.ext x25, x224.trans x25⟩, by dsimp only; omega⟩⟩
    have xcell : ∀ {v : World}, Ext w24 v → ∀ k, k < 5 → v.cell? ⟨w7.heap.size, k, none⟩ = some (.int .u64 ((rv pa2 ((slT l (i' + 1)).getD k none) : Nat) : Int)) := fun xv k hk => by
      rw [(T24.xs.ext xv).cell]
      unfold uv
      rw [List.getElem?_map, slot_at hk]; rfl
    have ycell : ∀ {v : World}, Ext w24 v → ∀ k, k < 5 → v.cell? (py.add k) = some (.int .u64 ((rv pb2 ((slT l (i' + 1)).getD k none) : Nat) : Int)) := fun xv k hk => by
      obtain ⟨q', y', hq', hy', hcy'⟩ := (T24.ys.ext xv).rd.word k (by omega)
      rw [hpy] at hq'; injection hq' with hq'; subst hq'
      rw [slot_at hk] at hy'
      injection hy' with hy'; subst hy'
      rw [Nat.mul_one] at hcy'; exact hcy'
    have oA : ∀ k, k < 5 → ∀ j, (slT l (i' + 1)).getD k none = some j → j ∈ List.range (i' + 1) := fun k hk j hj => List.mem_range.2 (slT_lt l (i' + 1) _ (slot_mem hk) j hj)
    have oB : ∀ k, k < 5 → ∀ j, (slT l (i' + 1)).getD k none = some j → j ∈ ob' ++ [i'] := fun k hk j hj => hsl2 _ (slot_mem hk) j hj
    refine ⟨fun d w' => ∃ d' : Nat, d = (d' : Nat) ∧ d' ≤ 5 ∧ Ext w24 w', fun d _ => (5 - d).toNat, ⟨0, rfl, by decide, x25⟩, ?_⟩
    rintro _ d w26 ⟨d', rfl, hd5, x26⟩
    have ed : IntKind.i64.wrap ((d' : Int) + 1) = ((d' + 1 : Nat) : Int) := by rw [wrap_i64 (by omega) (by omega)]; omega
    rw [ed]
    refine ⟨fun hltd => ⟨by omega, by omega, _, by rw [Int.toNat_natCast]; exact xcell x26 c' (by omega), by omega, by omega, _, by rw [Int.toNat_natCast]; exact xcell x26 d' (by omega), by omega, by omega, py, hpy, _, by rw [Int.toNat_natCast]; exact ycell x26 c' (by omega), by omega, by omega, py, hpy, _, by rw [Int.toNat_natCast]; exact ycell x26 d' (by omega), fun w27 q27 => ⟨fun hne' => absurd ?_ hne', fun _ => ⟨⟨d' + 1, rfl, by omega, x26.trans q27.ext⟩, by dsimp only; omega⟩⟩⟩, fun hged w27 q27 => ?_⟩
    · have i1 := T24.A.inj (oA c' (by omega)) (oA d' (by omega))
      have i2 := T24.Bh.inj (oB c' (by omega)) (oB d' (by omega))
      have key : ∀ (a b c d : Nat), (a = b ↔ c = d) → (((a : Nat) : Int) == ((b : Nat) : Int)) = (((c : Nat) : Int) == ((d : Nat) : Int)) := fun a b c d hh => by
        by_cases hab : a = b
        · rw [hab, hh.1 hab]; simp
        · have hcd : ¬ c = d := fun e => hab (hh.2 e)
          rw [show (((a : Nat) : Int) == ((b : Nat) : Int)) = false from beq_eq_false_iff_ne.2 (by omega), show (((c : Nat) : Int) == ((d : Nat) : Int)) = false from beq_eq_false_iff_ne.2 (by omega)]
      exact key _ _ _ _ (i1.trans i2.symm)
    have x27 := x26.trans q27.ext
    have T27 := T24.ext x27
    refine ⟨fun _ => False, by omega, by omega, _, fun v u => by rw [Int.toNat_natCast]; exact xcell (x27.trans u) c' (by omega), by omega, by omega, py, hpy, _, fun v u => by rw [Int.toNat_natCast]; exact ycell (x27.trans u) c' (by omega), ⟨(twins_spec 3 (by decide) w27 ((slT l (i' + 1)).getD c' none) T27.A T27.Bh (fun j hj => ⟨oA c' (by omega) j hj, oB c' (by omega) j hj⟩)).mono ?_⟩⟩
    rintro e w28 ⟨rfl, x28⟩
    exact ⟨_, rfl, fun h => (by cases h), fun _ => ⟨⟨c' + 1, rfl, by omega, x27.trans x28⟩, by dsimp only; omega⟩⟩
  · obtain ⟨f, A, co, cp, hpn, H10, L10, ue⟩ := T10.Bh.ex
    refine ⟨_, rfl, _, H10.hd.cell 0, ⟨(check_spec H10.ar).mono ?_⟩⟩
    rintro e w11 ⟨rfl, x11⟩
    subst hpn
    rw [show checkT (Hp.mk A fl x3 false (i' : Int) co cp).A = (0, 0) from L10.check ue]
    exact ⟨_, _, rfl, fun _ => ⟨rfl, x01.trans (x210.trans x11)⟩, fun h => absurd rfl h⟩
end Go.Proofs.Ytggpomialmpgoaa.V
