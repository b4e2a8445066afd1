/-
  Law CheneyEnds: the walk.
-/
import Derived.Test.YtgbpglfieellpaaCv1
import Derived.Test.YtgbpglfieellpaaVcD
namespace Go.Proofs.Ytgbpglfieellpaa.V
open Go Go.RowKit
set_option linter.unusedVariables false
set_option linter.unusedSimpArgs false
set_option maxRecDepth 100000

theorem toList_fold (o : Option Nat) : (o.toList.map some).foldl pushO [] = [o].foldl pushO [] := by cases o <;> rfl
theorem cheneyends_walk (w : World) (v0 v1 v2 v3 : Value) (x0 : (Par.one (.sl 64 ThR)).T) (x1 : Int) (x2 : Int) (x3 : Bool) (h0 : (Par.one (.sl 64 ThR)).Is w v0 x0) (h1 : (Par.one (.int .i64)).Is w v1 x1)
    (h2 : (Par.one (.int .u64)).Is w v2 x2) (h3 : (Par.one .bool).Is w v3 x3) :
    Calls Try.prog 3 #[v0, v1, v2, v3] w fun e w' => e = .returned (.bool true) ∧ Ext w w' := by
  obtain ⟨rfl, hc, hm, ts0, hts0⟩ := ths_is h0
  obtain ⟨rfl, r1⟩ := h1
  obtain ⟨rfl, r2⟩ := h2
  obtain rfl : v3 = .bool x3 := h3
  have r1 := wf_i64 r1; have r2 := wf_u64 r2
  obtain ⟨things, ls⟩ := x0
  dsimp only at *
  obtain ⟨y, rfl⟩ : ∃ m : Nat, x2 = m := ⟨x2.toNat, by omega⟩
  refine vc_3 things x1 (y : Int) x3 _ _ ?_
  simp only [eq_self, false_or, or_false, true_and, and_true, decide_eq_true_eq, decide_eq_false_iff_not, gd_st, gd_sf, exists_eq_left', exists_eq_left, Option.some.injEq, Sl.eta, Nat.reduceLeDiff, Int.reduceLE, Int.reduceLT, Int.reduceEq, Int.reduceNe, Nat.reduceMul, Nat.reduceAdd, Nat.reduceSub, Int.toNat_natCast, beq_iff_eq, bne_iff_ne, beq_eq_false_iff_ne, bne_eq_false_iff_eq, pick_and, pick_or, Bool.and_eq_true, Bool.or_eq_true, Bool.and_eq_false_iff, Bool.or_eq_false_iff, ne_eq, not_false_eq_true, Bool.not_eq_true', Bool.not_eq_false', reduceCtorEq, Nat.le_refl, Nat.zero_mul, Nat.mul_one, Nat.zero_add, Int.reduceToNat, ones, one, add_mk, Decidable.not_not, cond_true, cond_false, true_implies, false_implies, implies_true, Bool.not_true, Bool.not_false]
  refine ⟨(shown_spec w).mono ?_⟩
  rintro e w1 ⟨rfl, x01⟩
  refine ⟨_, rfl, fun s' w' => w' = w1 ∧ ∃ ts, ThsIs w s' ts ∧ ts.length ≤ 100, ⟨fun h => ⟨by omega, rfl, ts0.take 100, hts0.cut (by omega), by rw [List.length_take]; omega⟩, fun h => ⟨rfl, ts0, hts0, by have := hts0.n; omega⟩⟩, ?_⟩
  rintro _ s w2 ⟨rfl, ts, hts, hN⟩
  have hsn := hts.n
  refine ⟨(room_spec hts x01 (by omega)).mono ?_⟩
  rintro e w3 ⟨rfl, x13⟩
  have hr := roomT_le ts
  have ew : IntKind.i64.wrap (((roomT ts : Nat) : Int) + 2) = ((roomT ts + 2 : Nat) : Int) := by rw [wrap_i64 (by omega) (by omega)]; omega
  refine ⟨_, rfl, ?_⟩
  rw [ew]
  refine ⟨(new_spec (by omega) _).mono ?_⟩
  rintro e w4 ⟨x34, ⟨hno, _⟩ | ⟨n, b, g, hk, hn, rfl, hb, hg, a4⟩⟩
  · omega
  obtain rfl : n = roomT ts + 2 := by omega
  refine ⟨_, _, rfl, ⟨(new_spec (n := 50) (by decide) _).mono ?_⟩⟩
  rintro e w5 ⟨x45, ⟨hno, _⟩ | ⟨n2, b2, g2, hk2, hn2, rfl, hb2, hg2, B5⟩⟩
  · exact absurd (by decide) hno
  obtain rfl : n2 = 50 := by omega
  have x04 := (x01.trans x13).trans x34
  have x05 := x04.trans x45
  have z3 := (x01.trans x13).size
  have hb4 := a4.ws.lt; have hg4 := a4.hd.lt; have hb5 := B5.ws.lt; have hg5 := B5.hd.lt
  refine ⟨_, _, rfl, fun _ => ⟨fun _ => ⟨fun _ => ⟨fun _ => ⟨fun h => absurd rfl h, fun _ => ⟨(laid_spec hts x05 (by omega) (a4.ext x45) rfl (by show 0 - 0 + roomT ts ≤ roomT ts + 2; omega) ⟨by omega, by omega⟩).mono ?_⟩⟩, fun h => absurd rfl h⟩, fun h => (by cases h)⟩, fun h => (by cases h)⟩, fun h => (by cases h)⟩
  rintro e w6 ⟨sr, A6, pr, rfl, hpr, o6, a6, L6, u6⟩
  have hL : Laid (tsT ts) ts.length (roomT ts + 2) 0 (List.range ts.length) (fun m => 0 + posR ts m) A6 := L6.done a4.ok (by show roomT ts ≤ roomT ts + 2; omega)
  have B6 := B5.upd u6 (by omega) (by omega)
  have x06 : Ext w w6 := x05.fresh u6 (by rintro k (rfl | rfl) <;> omega)
  have z6 := u6.size
  have hrn := o6.len1
  rw [uv_length, List.length_map, List.length_range] at hrn
  refine ⟨_, rfl, fun h => (by rw [hpr] at h; cases h), fun _ => ?_⟩
  refine ⟨fun n s2 w' => ∃ o : Option Nat, n = ((rv (fun m => 0 + posR ts m) o : Nat) : Int) ∧ (∀ j, o = some j → j < ts.length) ∧ Own w' w6.heap.size 3 1 s2 (nv o.toList) ∧ Ext w6 w', ⟨fun h => ⟨(pick_spec x1 (sr.n : Int) w6 r1.1 r1.2 (by omega)).mono ?_⟩, fun h => ⟨none, rfl, fun j h => (by cases h), .nil .., Ext.refl _⟩⟩, ?_⟩
  · rintro e w7 ⟨rfl, rfl⟩
    have hpk := pk_lt (c := x1) (n := (sr.n : Int)) (by omega)
    obtain ⟨j, hj⟩ : ∃ j : Nat, pk x1 (sr.n : Int) = j := ⟨(pk x1 (sr.n : Int)).toNat, by omega⟩
    rw [hj] at hpk ⊢
    refine ⟨_, rfl, fun w8 n8 => ?_⟩
    have z8 := n8.size
    obtain ⟨s2, w9, hr9, hn9, o9, u9, c9⟩ := (Own.nil w8 w7.heap.size 3 1).append (t := 32) (ty := 32) tab_ok (by rfl) (by rfl) (by decide) (x := ⟨some ⟨w7.heap.size, 0, none⟩, 1, 1⟩) (news := nv [j]) ((Blk.new n8).rd (z := 1) (o := 0) (n := 1) (c := 1) (by simp)) (nv_ones _) (by dsimp only; omega) (by dsimp only; omega) (by omega)
    have x9 : Ext w7 w9 := n8.ext.fresh u9 (by rintro i ⟨p, hp, _⟩; cases hp)
    dsimp only at hn9
    obtain ⟨p1, y1, hp1, hy1, hc1⟩ := o9.rd.nat 0 (by omega)
    have hy1' : y1 = j := by injection hy1 with hy1; exact hy1.symm
    subst hy1'
    obtain ⟨p2, y2, hp2, hy2, hc2⟩ := (o6.ext x9).rd.word y1 (by omega)
    rw [List.getElem?_map, List.getElem?_range (by omega)] at hy2
    injection hy2 with hy2; subst hy2
    rw [Nat.mul_one] at hc2
    exact ⟨s2, w9, hr9, by omega, p1, hp1, _, hc1, by omega, by omega, p2, hp2, _, hc2, some y1, rfl, fun j h => by injection h with h; omega, o9, x9⟩
  rintro _ n s2 w7 ⟨o, rfl, ho, o7, x67⟩
  refine ⟨(collect_noroots _ x3 w7).mono ?_⟩
  rintro e w8 ⟨rfl, x78⟩
  refine ⟨_, _, rfl, ⟨(collect_noroots _ x3 w8).mono ?_⟩⟩
  rintro e w9 ⟨rfl, x89⟩
  have x69 := (x67.trans x78).trans x89
  have z69 := x69.size; have z67 := x67.size
  refine ⟨_, _, rfl, ⟨(open_spec (B6.ext x69)).mono ?_⟩⟩
  rintro e w10 ⟨rfl, B10, u10⟩
  have eB : openT (newA 50) = ((openT (newA 50)).1, 0) := by kernel_rfl
  have oB : (openT (newA 50)).1.opn = true := by kernel_rfl
  generalize hBo : (openT (newA 50)).1 = Bo at eB oB B10
  have cB : (closeT Bo false).2 = 0 := by rw [← hBo]; kernel_rfl
  have x010 : Ext w w10 := (x06.trans x69).fresh u10 (by rintro k rfl; omega)
  have z10 := u10.size
  have U10 : Upd (fun k => k = b2 ∨ k = g2) w6 w10 := x69.toS.trans (u10.mono fun k _ hn e => hn (.inr e)) fun _ _ hn => ⟨hn, hn⟩
  refine ⟨_, rfl, fun a w' => ∃ D s, a = some ⟨D, 0, none⟩ ∧ DoneB w' D s 0 1 0 .nilFunc ∧ ArW 76 w' b2 g2 Bo ∧ Upd (fun k => k = b2 ∨ k = g2) w10 w' ∧ w6.heap.size ≤ D, fun w11 n11 => ⟨?_⟩, ?_⟩
  · have z11 := n11.size
    refine (visited_open (B10.ext n11.ext) oB (ls := [0]) (l := ⟨some ⟨w10.heap.size, 0, none⟩, 1, 1⟩) ((Blk.new n11).rd (z := 1) (o := 0) (n := 1) (c := 1) (by simp)) (by decide) x3).mono ?_
    rintro e w12 ⟨s', rfl, B12, u12⟩
    have z12 := u12.size
    refine ⟨_, _, _, _, .inl ⟨rfl, fun w13 n13 => ⟨rfl, (Blk.new n13).canSetN 0 5 (by simp), fun w14 s14 => ?_⟩⟩⟩
    obtain ⟨D14, x14, _⟩ := DoneB.made n13 s14
    exact ⟨_, s', rfl, D14, B12.ext x14, (n11.ext.toS.trans u12 fun k _ hn => ⟨hn, fun e => hn (.inr e)⟩).trans x14 fun _ _ hn => ⟨hn, not_false⟩, by omega⟩
  rintro _ a w11 ⟨D1, s1, rfl, d11, B11, R11, hD1⟩
  have U11 := U10.trans R11 fun _ _ hn => ⟨hn, hn⟩
  have z11 := U11.size
  have hd1 := d11.lt
  refine ⟨fun a w' => ∃ D s, a = some ⟨D, 0, none⟩ ∧ DoneB w' D s 0 1 0 .nilFunc ∧ Ext w11 w', fun w12 n12 => ⟨?_⟩, ?_⟩
  · have z12 := n12.size
    refine (visited_none (ls := [rv (fun m => 0 + posR ts m) o]) (l := ⟨some ⟨w11.heap.size, 0, none⟩, 1, 1⟩) ((Blk.new n12).rd (z := 1) (o := 0) (n := 1) (c := 1) (by simp)) (by simp) x3).mono ?_
    rintro e w13 ⟨s', rfl, x13'⟩
    refine ⟨_, _, _, _, .inl ⟨rfl, fun w14 n14 => ⟨rfl, (Blk.new n14).canSetN 0 5 (by simp), fun w15 s15 => ?_⟩⟩⟩
    obtain ⟨D15, x15, _⟩ := DoneB.made n14 s15
    exact ⟨_, s', rfl, D15, (n12.ext.trans x13').trans x15⟩
  rintro _ a w12 ⟨D2, s2', rfl, d12, x1112⟩
  have z12 := x1112.size
  have d1' := d11.ext x1112
  refine ⟨fun _ => ⟨fun _ => ⟨_, rfl, _, d1'.cell 2, fun _ => ⟨_, rfl, _, d1'.cell 1, fun _ => ⟨_, rfl, _, d1'.cell 3, fun _ => ⟨_, rfl, _, d12.cell 2, fun _ => ⟨_, rfl, _, d12.cell 3, fun _ => ⟨(close_spec (B11.ext x1112) false).mono ?_⟩, fun h => absurd rfl h⟩, fun h => absurd rfl h⟩, fun h => absurd rfl h⟩, fun h => absurd rfl h⟩, fun h => absurd rfl h⟩, fun h => absurd rfl h⟩, fun h => absurd rfl h⟩
  rintro e w13 ⟨rfl, B13, u13⟩
  rw [cB]
  have z13 := u13.size
  have R13 : Upd (fun k => k = b2 ∨ k = g2) w10 w13 := (R11.trans x1112 fun _ _ hn => ⟨hn, not_false⟩).trans u13 fun _ _ hn => ⟨hn, hn⟩
  have U13 : Upd (fun k => k = b2 ∨ k = g2) w6 w13 := (U11.trans x1112 fun _ _ hn => ⟨hn, not_false⟩).trans u13 fun _ _ hn => ⟨hn, hn⟩
  have a13 := a6.upd U13 (by omega) (by omega)
  have x013 : Ext w w13 := x06.fresh U13 (by rintro k (rfl | rfl) <;> omega)
  refine ⟨_, rfl, fun _ => ⟨(used_spec a13).mono ?_⟩, fun h => absurd rfl h⟩
  rintro e w14 ⟨rfl, q14⟩
  have x14 := q14.ext
  refine ⟨_, rfl, ⟨(room_spec hts (x013.trans x14) (by omega)).mono ?_⟩⟩
  rintro e w15 ⟨rfl, x15⟩
  have eU : A6.use.e - A6.use.f = roomT ts := by rw [L6.use]; show 0 + roomT ts - 0 = roomT ts; omega
  rw [eU]
  have x1315 := x14.trans x15
  have x015 := x013.trans x1315
  have z15 := x1315.size
  refine ⟨_, rfl, fun h => absurd rfl h, fun _ => ?_⟩
  refine ⟨fun a w' => ∃ D s c0 c1 c2 Q A', a = some ⟨D, 0, none⟩ ∧ DoneB w' D s (szQ (tsT ts) Q : Nat) 0 1 (cloV c0 c1 c2) ∧ Walks (tsT ts) ts.length 0 ([o].foldl pushO []) Q ∧ (∃ x : Nat, Own w' w15.heap.size 23 1 s (uv [x])) ∧ ArW 76 w' b g A' ∧ A'.opn = false ∧ Blk w' c0 4 [.bool true] ∧ w15.heap.size ≤ c0 ∧ w15.heap.size ≤ D ∧ Upd (fun k => k = b ∨ k = g) w15 w', fun w16 n16 => ⟨?_⟩, ?_⟩
  · have z16 := n16.size
    refine (visited_laid ((a13.ext x1315).ext n16.ext) hL (roots := [o]) (l := ⟨some ⟨w15.heap.size, 0, none⟩, 1, 1⟩) ((Blk.new n16).rd (z := 1) (o := 0) (n := 1) (c := 1) (by simp)) (by
      intro o' ho' j hj
      rw [List.mem_singleton.1 ho'] at hj
      exact List.mem_range.2 (ho j hj)) (by simp) x3).mono ?_
    rintro e w17 ⟨s', c0, c1, c2, Q, A', rfl, hw, hQ, o17, a17, hL', _, _, _, v17, hc0, u17⟩
    have z17 := u17.size
    refine ⟨_, _, _, _, .inr ⟨_, _, _, rfl, fun w18 n18 => ⟨rfl, (Blk.new n18).canSetN 0 5 (by simp), fun w19 s19 => ?_⟩⟩⟩
    obtain ⟨D19, x19, _⟩ := DoneB.made n18 s19
    exact ⟨_, s', c0, c1, c2, Q, A', rfl, D19, hw, ⟨_, (o17.ext x19).mono (by omega)⟩, a17.ext x19, hL'.opn, v17.ext x19, by omega, by omega, (n16.ext.toS.trans u17 fun _ _ hn => ⟨hn, hn⟩).trans x19 fun _ _ hn => ⟨hn, not_false⟩⟩
  rintro _ a w16 ⟨D, s', c0, c1, c2, Q, A', rfl, d16, hw, ⟨xr, o16⟩, a16, hop, v16, hc0, hD, u16⟩
  have z16 := u16.size
  have x016 : Ext w w16 := x015.fresh u16 (by rintro k (rfl | rfl) <;> omega)
  have os16 : Own w16 w6.heap.size 3 1 s2 (nv o.toList) := by
    have hoff : ∀ p, s2.a = some p → w6.heap.size ≤ p.block := fun p hp => (o7.base p hp).1
    exact ((((o7.ext (x78.trans x89)).upd u10 (fun p hp e => by have := hoff p hp; omega)).upd R13 (fun p hp e => by have := hoff p hp; omega)).ext x1315).upd u16 (fun p hp e => by have := hoff p hp; omega)
  refine ⟨(met_spec hts x016 (by omega) os16.rd (by
    intro j hj
    cases o with
    | none => cases hj
    | some k => rw [List.mem_singleton.1 hj]; exact ho k rfl) (by cases o <;> simp)).mono ?_⟩
  rintro e w17 ⟨so, Q', rfl, hw', hF, o17, x17⟩
  rw [toList_fold] at hw'
  obtain rfl := hw'.uniq hw
  have hFl := hF.len
  have hson := o17.len1
  rw [nv_length] at hson
  have x017 := x016.trans x17
  have z17 := x17.size
  refine ⟨_, rfl, fun s4 n w' => ∃ i : Nat, n = i ∧ i ≤ Q'.length ∧ LiveR w w' w17.heap.size s4 ((Q'.take i).map (tsT ts)) ∧ Ext w17 w', fun _ n _ => (Q'.length - n).toNat, ⟨0, rfl, Nat.zero_le _, .nil .., Ext.refl _⟩, ?_⟩
  rintro _ s4 n w18 ⟨i, rfl, hi, l18, x18⟩
  have z18 := x18.size
  refine ⟨fun hlt => ?_, fun hge => ?_⟩
  · obtain ⟨p, j, hp, hj, hcj⟩ := (o17.ext x18).rd.nat i (by omega)
    have hjN := hF.lt j (List.mem_of_getElem? hj)
    obtain ⟨t, ht⟩ : ∃ t, ts[j]? = some t := ⟨_, List.getElem?_eq_getElem hjN⟩
    obtain ⟨q, c, m, hq, htri, hcs⟩ := hts.tri (Ext.refl _) ht
    refine ⟨by omega, by omega, p, hp, _, hcj, by omega, by omega, q, hq, t.K, t.T, c, m, rfl, by rw [Int.toNat_natCast]; exact hcs w18 (x017.trans x18), rfl, fun w19 n19 => ?_⟩
    obtain ⟨s5, w20, hr20, l20, u20, hlo⟩ := l18.push (by omega) htri (by rw [List.length_map, List.length_take]; omega) n19
    have ei : IntKind.i64.wrap ((i : Int) + 1) = ((i + 1 : Nat) : Int) := by rw [wrap_i64 (by omega) (by omega)]; omega
    rw [ei]
    refine ⟨s5, w20, hr20, ⟨i + 1, rfl, by omega, ?_, x18.fresh u20 (by rintro k ⟨p, hp, rfl⟩; exact hlo p hp)⟩, by dsimp only; omega⟩
    rw [take_snoc hj, List.map_append, List.map_cons, List.map_nil, tsT_at ht]
    exact l20
  · have hi' : i = Q'.length := by omega
    subst hi'
    rw [List.take_of_length_le (Nat.le_refl _)] at l18
    intro w19 q19
    have x19 := q19.ext
    have x1719 := x18.trans x19
    have x1619 := x17.trans x1719
    have d19 := d16.ext x1619
    have x019 := x016.trans x1619
    refine ⟨fun _ => False, _, rfl, _, fun v u => (d19.ext u).cell 2, fun _ => ⟨_, rfl, _, fun v u => (d19.ext u).cell 3, fun _ => ⟨_, rfl, .inr ⟨_, _, _, fun v u => (d19.ext u).cell 4, _, rfl, _, fun v u => (d19.ext u).cell 1, ⟨?_⟩⟩⟩, fun h => absurd rfl h⟩, fun h => absurd rfl h⟩
    refine (room_spec ((l18.upd x19 (fun k hk => hk.elim)).is x019) (Ext.refl _) (by rw [List.length_map]; omega)).mono ?_
    rintro e w20 ⟨rfl, x20⟩
    rw [roomT_map]
    have x1620 := x1619.trans x20
    have d20 := d16.ext x1620
    have o20 := o16.ext x1620
    have v20 := v16.ext x1620
    have a20 := a16.ext x1620
    obtain ⟨p1, y1, hp1, hy1, hc1⟩ := o20.rd.word 0 (by have := o20.len1; rw [uv_length] at this; simp at this; omega)
    refine ⟨_, rfl, x20, fun h => absurd rfl h, fun _ => ⟨_, rfl, _, d20.cell 0, ?_, p1, hp1, _, hc1, _, rfl, .inr ⟨_, _, _, d20.cell 4, ⟨(visit_over v20).mono ?_⟩⟩⟩⟩
    · have := o20.len1; rw [uv_length] at this; simp at this; omega
    rintro e w21 ⟨rfl, rfl⟩
    have z20 := x1620.size
    refine ⟨_, rfl, fun _ => ⟨(open_spec a20).mono ?_⟩, fun h => absurd rfl h⟩
    rintro e w22 ⟨rfl, a22, u22⟩
    have eO : openT A' = ({ A' with opn := true, nxt := ⟨A'.n - A'.use.f, A'.n - A'.use.f⟩ }, 0) := by unfold openT; rw [hop]; rfl
    rw [eO] at a22 ⊢
    have z22 := u22.size
    have d22 := d20.upd u22 (by omega)
    have v22 := v20.upd u22 (by omega)
    refine ⟨_, rfl, fun h => absurd rfl h, fun _ => ⟨_, rfl, .inr ⟨_, _, _, d22.cell 4, ⟨(visit_over v22).mono ?_⟩⟩⟩⟩
    rintro e w23 ⟨rfl, rfl⟩
    refine ⟨_, rfl, ⟨(close_spec a22 false).mono ?_⟩⟩
    rintro e w24 ⟨rfl, a24, u24⟩
    refine ⟨_, rfl, fun _ => ⟨(used_spec a24).mono ?_⟩, fun h => absurd rfl h⟩
    rintro e w25 ⟨rfl, q25⟩
    have f : ∀ {v v' : World} {S : Nat → Prop}, Ext w v → Upd S v v' → (∀ i, S i → w.heap.size ≤ i) → Ext w v' := fun x u h => x.fresh u h
    refine ⟨_, rfl, ?_, (f (f (x016.trans x1620) u22 (by rintro k rfl; omega)) u24 (by rintro k (rfl | rfl) <;> omega)).trans q25.ext⟩
    unfold closeT
    rw [if_neg (by intro h; cases h)]
    dsimp only
    rw [Nat.sub_self]
    rfl
end Go.Proofs.Ytgbpglfieellpaa.V
