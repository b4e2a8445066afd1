/-
  ShapeFlat: its walk.
-/
import Derived.Test.YtepmokkhcombmaaDoorSr2
namespace Go.Proofs.YtepmokkhcombmaaDoor.V
open Go Go.RowKit
set_option linter.unusedVariables false
set_option linter.unusedSimpArgs false
set_option linter.unusedSectionVars false
set_option maxRecDepth 100000

theorem rwV_cut {q : List QR} {k : Nat} (h : k ≤ q.length) : rwV (q.take k) = (rwV q).take (k * 4) ∧ rwV (q.drop k) = (rwV q).drop (k * 4) := by
  have e : rwV q = rwV (q.take k) ++ rwV (q.drop k) := by rw [← rwV_append, List.take_append_drop]
  have l : (rwV (q.take k)).length = k * 4 := by rw [rwV_len, List.length_take, Nat.min_eq_left h]
  rw [e]
  exact ⟨(List.take_left' l).symm, (List.drop_left' l).symm⟩
section
variable {w w' : World} {K : World → Prop} {s : Sl} {R : List Rp} {z k : Nat} {xs : List Value}
theorem rd_fst (h : Rd w z s xs) (hk : k ≤ s.n) (hc : s.n ≤ s.c) : Rd w z ⟨if s.c = 0 then s.a else s.a.map (fun x => x.add (0 * z)), k, s.c⟩ (xs.take (k * z)) := by
  refine ⟨by rw [List.length_take, h.1]; exact Nat.min_eq_left (Nat.mul_le_mul_right _ hk), fun h0 => ?_⟩
  have h0 : 0 < k := h0
  obtain ⟨p, hp, hx⟩ := h.2 (by omega)
  refine ⟨p.add (0 * z), by dsimp only; rw [if_neg (by omega), hp]; rfl, fun j v hj => ?_⟩
  rw [add_add, Nat.zero_mul, Nat.zero_add]
  exact hx j v (by
    rw [List.getElem?_take] at hj
    split at hj
    · exact hj
    · cases hj)
theorem rd_snd (h : Rd w z s xs) (hk : k ≤ s.n) (hc : s.n ≤ s.c) : Rd w z ⟨if s.c = k then s.a else s.a.map (fun x => x.add (k * z)), s.n - k, s.c - k⟩ (xs.drop (k * z)) := by
  refine ⟨by rw [List.length_drop, h.1, Nat.sub_mul], fun h0 => ?_⟩
  have h0 : 0 < s.n - k := h0
  obtain ⟨p, hp, hx⟩ := h.2 (by omega)
  refine ⟨p.add (k * z), by dsimp only; rw [if_neg (by omega), hp]; rfl, fun j v hj => ?_⟩
  rw [add_add]
  exact hx _ v (by rw [List.getElem?_drop] at hj; exact hj)
theorem RwK.fst (h : RwK K s R) (hk : k ≤ R.length) (hc : s.n ≤ s.c) : RwK K ⟨if s.c = 0 then s.a else s.a.map (fun x => x.add (0 * 4)), k, s.c⟩ (R.take k) := by
  obtain ⟨q, h1, h2, h3⟩ := h
  have g : ∀ {α : Type} {l : List α} {i : Nat} {x : α}, (l.take k)[i]? = some x → l[i]? = some x := fun {α l i x} hx => by
    rw [List.getElem?_take] at hx
    split at hx
    · exact hx
    · cases hx
  refine ⟨q.take k, by rw [List.length_take, List.length_take, h1], fun i a t ha ht => h2 i a t (g ha) (g ht), fun w' hw => ?_⟩
  obtain ⟨r, hr⟩ := h3 w' hw
  have hl := r.1
  rw [rwV_len] at hl
  refine ⟨?_, fun i a t ha ht => hr i a t (g ha) (g ht)⟩
  rw [(rwV_cut (by omega)).1]
  exact rd_fst r (by omega) hc
theorem RwK.snd (h : RwK K s R) (hk : k ≤ R.length) (hc : s.n ≤ s.c) : RwK K ⟨if s.c = k then s.a else s.a.map (fun x => x.add (k * 4)), s.n - k, s.c - k⟩ (R.drop k) := by
  obtain ⟨q, h1, h2, h3⟩ := h
  refine ⟨q.drop k, by rw [List.length_drop, List.length_drop, h1], fun i a t ha ht => ?_, fun w' hw => ?_⟩
  · rw [List.getElem?_drop] at ha ht
    exact h2 _ a t ha ht
  obtain ⟨r, hr⟩ := h3 w' hw
  have hl := r.1
  rw [rwV_len] at hl
  refine ⟨?_, fun i a t ha ht => ?_⟩
  · rw [(rwV_cut (by omega)).2]
    exact rd_snd r (by omega) hc
  · rw [List.getElem?_drop] at ha ht
    exact hr _ a t ha ht
end
theorem flat_size {R : List Rp} (D : Dok (R.map flR) []) : (rowsT [] (R.map flR)).1.length ≤ 10000000000 := by
  have h1 := (rowsT_gd Gd.nil D.okr).2
  have h2 := D.bR
  omega
set_option maxHeartbeats 2000000 in
theorem shapeflat_walk (w : World) (L : Lay w) (v0 v1 : Value) (x0 : (Par.one (.sl 64 RowR)).T) (x1 : (Par.one (.int .i64)).T) (h0 : (Par.one (.sl 64 RowR)).Is w v0 x0) (h1 : (Par.one (.int .i64)).Is w v1 x1)
    (hbk : (Par.one (.sl 64 RowR)).bulk x0 + ((Par.one (.int .i64)).bulk x1 + 0) ≤ 1048576) :
    Calls Tryd.prog 6 #[v0, v1] w fun e w' => e = .returned (.bool true) ∧ Ext w w' := by
  obtain ⟨rfl, hR, okr⟩ := is_rows h0
  obtain ⟨rfl, wf1⟩ := h1
  have wf1 := wf_i64 wf1
  obtain ⟨c1, ec⟩ : ∃ c : Int, @Eq Int x1 c := ⟨x1, rfl⟩
  have wf1 : -9223372036854775808 ≤ c1 ∧ c1 ≤ 9223372036854775807 := by rw [← ec]; exact wf1
  rw [ec]
  have D := dok_rows okr hbk
  have hT := tbf L
  clear hbk h0
  generalize x0.1 = l at *
  generalize x0.2.map rpOf = R at hR okr D
  have hRn := hR.n (Ext.refl w)
  have hRl := D.rs.1
  refine vc_6 _ _ _ _ ?_
  simp only [eq_self, false_or, or_false, true_and, and_true, decide_eq_true_eq, decide_eq_false_iff_not, gd_st, gd_sf, exists_eq_left', exists_eq_left, Option.some.injEq, Sl.eta, Nat.reduceLeDiff, Int.reduceLE, Int.reduceLT, Int.reduceEq, Int.reduceNe, Nat.reduceMul, Nat.reduceAdd, Nat.reduceSub, Int.toNat_natCast, beq_iff_eq, bne_iff_ne, beq_eq_false_iff_ne, bne_eq_false_iff_eq, pick_and, pick_or, Bool.and_eq_true, Bool.or_eq_true, Bool.and_eq_false_iff, Bool.or_eq_false_iff, ne_eq, not_false_eq_true, Bool.not_eq_true', Bool.not_eq_false', reduceCtorEq, Nat.le_refl, Nat.zero_mul, Nat.mul_one, Nat.zero_add, Int.reduceToNat, ones, one, add_mk, Decidable.not_not, cond_true, cond_false, true_implies, false_implies, implies_true, Bool.not_true, Bool.not_false]
  refine ⟨(shown_spec hT).mono ?_⟩
  rintro e w1 ⟨rfl, y1⟩
  refine ⟨_, rfl, ?_⟩
  refine ⟨fun sl n w' => ∃ k : Nat, n = (k : Nat) ∧ k ≤ R.length ∧ RwG 36 42 w' w1.heap.size sl ((R.take k).map flR) ∧ Ext w1 w', fun _ n _ => (R.length - n).toNat, ⟨0, rfl, Nat.zero_le _, RwG.nil _ _, Ext.refl _⟩, ?_⟩
  rintro _ sl n w2 ⟨k, rfl, hk, g2, y2⟩
  have ek : IntKind.i64.wrap ((k : Int) + 1) = ((k + 1 : Nat) : Int) := by rw [wrap_i64 (by omega) (by omega)]; omega
  rw [ek]
  refine ⟨fun hlt w3 q3 => ?_, fun hge => ?_⟩
  · obtain ⟨t, ht⟩ : ∃ t, R[k]? = some t := ⟨_, List.getElem?_eq_getElem (by omega)⟩
    obtain ⟨p, s1, s2, hp, hc⟩ := hR.at_ (Ext.refl w) ht
    have y3 := y2.trans q3.ext
    have y03 := y1.trans y3
    have cc := fun w' (u : Ext w3 w') => hc w' (y03.trans u)
    obtain ⟨ml, ms⟩ := D.rs.2 t (List.mem_of_getElem? ht)
    have hs1 := (cc w3 (Ext.refl _)).2.2.2.2.1.lencl
    have hs2 := (cc w3 (Ext.refl _)).2.2.2.2.2.lencl
    simp only [Int.toNat_natCast]
    refine ⟨fun _ => False, by omega, by omega, p, hp, _, fun w' u => (cc w' u).1, by omega, by omega, p, hp, _, fun w' u => (cc w' u).2.1, (by show 2 ≤ 4; decide), fun w4 n4 => ⟨n4.ext, rfl, (Blk.new n4).canSetN 0 4 (by simp), fun w5 s5 => ?_⟩⟩
    have k5 : Blk w5 w3.heap.size 36 [.int .i64 t.fn, .int .i64 t.pl, .slice none 0 0, .slice none 0 0] := s5.blk (Blk.new n4)
    have x35 : Ext w3 w5 := n4.ext.fresh s5.upd (by rintro i rfl; exact Nat.le_refl _)
    have z4 := n4.size
    have z5 := x35.size
    refine ⟨fun n w' => ∃ (j : Nat) (sl1 : Sl), n = (j : Nat) ∧ j ≤ t.loc.length ∧ Blk w' w3.heap.size 36 [.int .i64 t.fn, .int .i64 t.pl, .slice sl1.a sl1.n sl1.c, .slice none 0 0] ∧ Own w' (w3.heap.size + 1) 42 3 sl1 (clV ((t.loc.take j).map flC)) ∧ Ext w3 w', fun n _ => (t.loc.length - n).toNat, ⟨0, ⟨none, 0, 0⟩, rfl, Nat.zero_le _, k5, Own.nil _ _ _ _, x35⟩, ?_⟩
    rintro _ n w6 ⟨j, sl1, rfl, hj, k6, o6, x36⟩
    have ej : IntKind.i64.wrap ((j : Int) + 1) = ((j + 1 : Nat) : Int) := by rw [wrap_i64 (by omega) (by omega)]; omega
    rw [ej]
    simp only [Int.toNat_natCast]
    refine ⟨by omega, by omega, p, hp, s1, (cc w6 x36).2.2.1, fun hlt1 w7 q7 => ?_, fun hge1 => ?_⟩
    · obtain ⟨c, hcj⟩ : ∃ c, t.loc[j]? = some c := ⟨_, List.getElem?_eq_getElem (by omega)⟩
      obtain ⟨pc, hpc, _⟩ := (cc w3 (Ext.refl _)).2.2.2.2.1.cl hcj
      have x37 := x36.trans q7.ext
      have k7 := k6.ext q7.ext
      have ct : ∀ w', Ext w7 w' → w'.cell? ((pc.add (j * 3)).add 2) = some (.string (mkB c.text)) := fun w' u => by
        obtain ⟨p', hp', hh⟩ := (cc w' (x37.trans u)).2.2.2.2.1.cl hcj
        rw [hpc] at hp'; injection hp' with hp'; subst hp'; exact hh.2.2
      refine ⟨fun _ => False, sl1, fun w' u => (k7.ext u).cell 2, by omega, by omega, p, hp, s1, fun w' u => (cc w' (x37.trans u)).2.2.1, by omega, by omega, pc, hpc, _, fun w' u => ct w' u, rfl, fun w8 n8 => ⟨n8.ext, ?_⟩⟩
      have x38 := x37.trans n8.ext
      have z6 := x36.size
      have z7 := q7.size
      have z8 := n8.size
      have o8 := (o6.ext q7.ext).ext n8.ext
      have hsn := o6.rd.lencl
      rw [List.length_map, List.length_take] at hsn
      have rd : Rd w8 3 ⟨some ⟨w7.heap.size, 0, none⟩, 1, 1⟩ (clV [flC c]) := (Blk.new n8).rd (z := 3) (o := 0) (n := 1) (c := 1) (by simp)
      obtain ⟨s', w9, hr9, hn9, o9, u9, _⟩ := o8.append (t := 34) (ty := 34) tab_ok (by rfl) (by rfl) (by decide) rd (clV_ones _) (by dsimp only; omega) (by dsimp only; omega) (by omega)
      rw [← clV_append, show [flC c] = [c].map flC from rfl, ← List.map_append, ← take_snoc hcj] at o9
      have k9 := (k7.ext n8.ext).upd u9 (by rintro ⟨q, hq, e⟩; have := (o8.base q hq).1; omega)
      refine ⟨s', w9, hr9, k9.canSetN 2 1 (by simp), fun w10 s10 => ?_⟩
      have k10 : Blk w10 w3.heap.size 36 [.int .i64 t.fn, .int .i64 t.pl, .slice s'.a s'.n s'.c, .slice none 0 0] := s10.blk k9
      refine ⟨⟨j + 1, s', rfl, by omega, k10, o9.upd s10.upd (by rintro q hq e; have e : q.block = w3.heap.size := e; have := (o9.base q hq).1; omega), (x38.fresh u9 (by rintro i ⟨q, hq, rfl⟩; have := (o8.base q hq).1; omega)).fresh s10.upd (by rintro i rfl; exact Nat.le_refl _)⟩, by omega⟩
    · have : j = t.loc.length := by omega
      subst this
      rw [List.take_length] at o6
      have z6 := x36.size
      have g6 := k6.lt
      refine ⟨fun n w' => ∃ (j : Nat) (sl2 : Sl), n = (j : Nat) ∧ j ≤ t.stk.length ∧ Blk w' w3.heap.size 36 [.int .i64 t.fn, .int .i64 t.pl, .slice sl1.a sl1.n sl1.c, .slice sl2.a sl2.n sl2.c] ∧ Own w' w6.heap.size 42 3 sl2 (clV ((t.stk.take j).map flC)) ∧ Upd (fun k => k = w3.heap.size) w6 w', fun n _ => (t.stk.length - n).toNat, ⟨0, ⟨none, 0, 0⟩, rfl, Nat.zero_le _, k6, Own.nil _ _ _ _, Upd.refl _ _⟩, ?_⟩
      rintro _ n w7 ⟨i, sl2, rfl, hi, k7, o7, u67⟩
      have x37 : Ext w3 w7 := x36.fresh u67 (by rintro i rfl; exact Nat.le_refl _)
      have z7 := u67.size
      have ei : IntKind.i64.wrap ((i : Int) + 1) = ((i + 1 : Nat) : Int) := by rw [wrap_i64 (by omega) (by omega)]; omega
      rw [ei]
      simp only [Int.toNat_natCast]
      refine ⟨by omega, by omega, p, hp, s2, (cc w7 x37).2.2.2.1, fun hlt2 w8 q8 => ?_, fun hge2 => ?_⟩
      · obtain ⟨c, hcj⟩ : ∃ c, t.stk[i]? = some c := ⟨_, List.getElem?_eq_getElem (by omega)⟩
        obtain ⟨pc, hpc, _⟩ := (cc w3 (Ext.refl _)).2.2.2.2.2.cl hcj
        have x38 := x37.trans q8.ext
        have k8 := k7.ext q8.ext
        have ct : ∀ w', Ext w8 w' → w'.cell? ((pc.add (i * 3)).add 2) = some (.string (mkB c.text)) := fun w' u => by
          obtain ⟨p', hp', hh⟩ := (cc w' (x38.trans u)).2.2.2.2.2.cl hcj
          rw [hpc] at hp'; injection hp' with hp'; subst hp'; exact hh.2.2
        refine ⟨fun _ => False, sl2, fun w' u => (k8.ext u).cell 3, by omega, by omega, p, hp, s2, fun w' u => (cc w' (x38.trans u)).2.2.2.1, by omega, by omega, pc, hpc, _, fun w' u => ct w' u, rfl, fun w9 n9 => ⟨n9.ext, ?_⟩⟩
        have z8 := q8.size
        have z9 := n9.size
        have o9 := (o7.ext q8.ext).ext n9.ext
        have hsn := o7.rd.lencl
        rw [List.length_map, List.length_take] at hsn
        have rd : Rd w9 3 ⟨some ⟨w8.heap.size, 0, none⟩, 1, 1⟩ (clV [flC c]) := (Blk.new n9).rd (z := 3) (o := 0) (n := 1) (c := 1) (by simp)
        obtain ⟨s', w10, hr10, hn10, o10, u10, _⟩ := o9.append (t := 34) (ty := 34) tab_ok (by rfl) (by rfl) (by decide) rd (clV_ones _) (by dsimp only; omega) (by dsimp only; omega) (by omega)
        rw [← clV_append, show [flC c] = [c].map flC from rfl, ← List.map_append, ← take_snoc hcj] at o10
        have k10 := (k8.ext n9.ext).upd u10 (by rintro ⟨q, hq, e⟩; have := (o9.base q hq).1; omega)
        refine ⟨s', w10, hr10, k10.canSetN 3 1 (by simp), fun w11 s11 => ?_⟩
        have k11 : Blk w11 w3.heap.size 36 [.int .i64 t.fn, .int .i64 t.pl, .slice sl1.a sl1.n sl1.c, .slice s'.a s'.n s'.c] := s11.blk k10
        have v11 : Upd (fun k => k = w3.heap.size) w6 w11 := (((u67.ext q8.ext).ext n9.ext).fresh u10 (by rintro i ⟨q, hq, rfl⟩; exact .inl (o9.base q hq).1)).same s11.upd
        refine ⟨⟨i + 1, s', rfl, by omega, k11, o10.upd s11.upd (by rintro q hq e; have e : q.block = w3.heap.size := e; have := (o10.base q hq).1; omega), v11⟩, by omega⟩
      · have : i = t.stk.length := by omega
        subst this
        rw [List.take_length] at o7
        have o1 : Own w7 (w3.heap.size + 1) 42 3 sl1 (clV (t.loc.map flC)) := o6.upd u67 (by rintro q hq e; have := (o6.base q hq).1; omega)
        refine ⟨_, _, sl1, sl2, rfl, ⟨k7.cell 0, k7.cell 1, k7.cell 2, k7.cell 3⟩, rfl, fun w8 n8 => ?_⟩
        have x38 := x37.trans n8.ext
        have z2 := y2.size
        have z3 := q3.size
        have z8 := n8.size
        have g8 := (g2.ext q3.ext).ext x38
        have rd : Rd w8 4 ⟨some ⟨w7.heap.size, 0, none⟩, 1, 1⟩ (rwV [((flR t).fn, (flR t).pl, sl1, sl2)]) := (Blk.new n8).rd (z := 4) (o := 0) (n := 1) (c := 1) (by simp)
        have hlen : ((R.take k).map flR).length = k := by rw [List.length_map, List.length_take]; omega
        obtain ⟨s', w9, hr9, g9, u9, _⟩ := g8.push (g := 0) (t := 22) (ty := 22) (by rfl) (by rfl) (by decide) rd rfl ((o1.ext n8.ext).mono (by omega)) ((o7.ext n8.ext).mono (by omega)) (by rw [hlen]; omega) (by rw [hlen]; omega) (by omega)
        rw [show [flR t] = [t].map flR from rfl, ← List.map_append, ← take_snoc ht] at g9
        exact ⟨s', w9, hr9, ⟨k + 1, rfl, by omega, g9, (y3.trans x38).fresh u9 fun i hi => hi⟩, by omega⟩
  have : k = R.length := by omega
  subst this
  rw [List.take_length] at g2
  have y02 := y1.trans y2
  have hsn := g2.n
  rw [List.length_map] at hsn
  have hcap : sl.n ≤ sl.c := by obtain ⟨q, hq, _⟩ := id g2; exact hq.cap
  refine ⟨fun n w' => 0 ≤ n ∧ n ≤ 9223372036854775807 ∧ w' = w2, ⟨fun hlt => ?_, fun hge => ⟨by omega, by omega, rfl⟩⟩, ?_⟩
  · have a1 : IntKind.i64.wrap (c1 + 1) = c1 + 1 := wrap_i64 (by omega) (by omega)
    rw [a1, wrap_i64 (by omega) (by omega)]
    exact ⟨by omega, by omega, rfl⟩
  rintro _ n w' ⟨hn0, hn1, hww⟩
  rw [hww]
  have en : IntKind.i64.wrap ((sl.n : Int) + 1) = ((R.length + 1 : Nat) : Int) := by rw [wrap_i64 (by omega) (by omega)]; omega
  obtain ⟨m, em, hm⟩ : ∃ m : Nat, n.tmod ((R.length + 1 : Nat) : Int) = (m : Nat) ∧ m ≤ R.length := by
    rw [Int.tmod_eq_emod_of_nonneg hn0]
    have a1 := Int.emod_nonneg n (b := ((R.length + 1 : Nat) : Int)) (by omega)
    have a2 := Int.emod_lt_of_pos n (b := ((R.length + 1 : Nat) : Int)) (by omega)
    exact ⟨(n % ((R.length + 1 : Nat) : Int)).toNat, by omega, by omega⟩
  simp only [en, em, Int.toNat_natCast]
  have D0 := dok_fl D R (List.Sublist.refl R)
  have D1 := dok_fl D (R.take m) (List.take_sublist m R)
  have D2 := dok_fl D (R.drop m) (List.drop_sublist m R)
  have hK := g2.rwk
  have hK1 := hK.fst (k := m) (by rw [List.length_map]; exact hm) hcap
  have hK2 := hK.snd (k := m) (by rw [List.length_map]; exact hm) hcap
  rw [← List.map_take] at hK1
  rw [← List.map_drop] at hK2
  refine ⟨by omega, ⟨(viewed_spec (b := 0) hK (thk_nil w2) D0 (by decide) (hT.ext y02)).mono ?_⟩⟩
  rintro e w3 ⟨q1, rfl, o1, x3⟩
  refine ⟨_, q1, rfl, by omega, by omega, ⟨(viewed_spec (b := 0) (hK1.mono fun w' u => x3.trans u) (thk_nil w3) D1 (by decide) (hT.ext (y02.trans x3))).mono ?_⟩⟩
  rintro e w4 ⟨q2, rfl, o2, x4⟩
  have x24 := x3.trans x4
  refine ⟨_, q2, rfl, by omega, by omega, ⟨(viewed_spec (b := 0) (hK2.mono fun w' u => x24.trans u) (thk_nil w4) D2 (by decide) (hT.ext (y02.trans x24))).mono ?_⟩⟩
  rintro e w5 ⟨q3, rfl, o3, x5⟩
  refine ⟨_, q3, rfl, fun _ => ?_, fun h => (by cases h)⟩
  rw [seenT_fl] at o1 o2 o3
  simp only [seenT_fl]
  have a1 := o1.len1
  have a2 := o2.len1
  have a3 := o3.len1
  have b1 := flat_size D1
  have b2 := flat_size D2
  have fb := flat_both R m
  refine ⟨by rw [mkB_size, mkB_size]; omega, fun _ => ⟨fun _ => ⟨?_, y02.trans (x24.trans x5)⟩, fun h => ?_⟩, fun h => ?_⟩
  · rw [mkB_list]
    have := rowsT_nil_iff (R.map flR) []
    cases R with
    | nil => simp [hsn, rowsT]
    | cons r R =>
      have h1 : (rowsT [] ((r :: R).map flR)).1 ≠ [] := fun h => by
        have := this.1 h
        cases this
      have e1 : ((rowsT [] ((r :: R).map flR)).1 == (⟨#[]⟩ : ByteArray).toList) = false := by
        rw [show (⟨#[]⟩ : ByteArray) = mkB [] from rfl, mkB_list]; exact beq_eq_false_iff_ne.2 h1
      have e2 : (((sl.n : Nat) : Int) == 0) = false := by rw [beq_eq_false_iff_ne, hsn, List.length_cons]; omega
      rw [e1, e2]; rfl
  · exact absurd h (by
      have e1 : q1.n = 0 := by simpa using a1.symm
      have e2 : q2.n = 0 := by simpa using a2.symm
      have e3 : q3.n = 0 := by simpa using a3.symm
      rw [e1, e2, e3]; decide)
  · exact absurd h (by rw [mkB_append, mkB_list, mkB_list, ← fb]; simp)
end Go.Proofs.YtepmokkhcombmaaDoor.V
