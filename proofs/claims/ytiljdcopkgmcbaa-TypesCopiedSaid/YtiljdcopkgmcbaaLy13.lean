/-
  The laws of types: Copied.
-/
import Derived.Test.YtiljdcopkgmcbaaLy12
import Derived.Test.YtiljdcopkgmcbaaLy7
namespace Go.Proofs.Ytiljdcopkgmcbaa.V
open Go Go.RowKit
set_option linter.unusedVariables false
set_option linter.unusedSimpArgs false
set_option maxRecDepth 100000

/-- one type more, its parts of the call's own -/
theorem TyOwn.add {w : World} {B g : Nat} {r : Sl} {T : List Tp} {t : Tp} (o : TyOwn w B r T) (hb : Blk w g 41 (tyRow t)) (ht : Own w B 3 1 t.2 (iv t.1.parts)) (hm : r.n ≤ 1000) (hB : B ≤ w.heap.size) :
    ∃ r' w', Runs Try.prog (Builtin.append_ #[22, 22] 22 #[.slice r.a r.n r.c, .slice (some ⟨g, 0, none⟩) 1 1]) w (.slice r'.a r'.n r'.c) w' ∧ r'.n = r.n + 1 ∧ TyOwn w' B r' (T ++ [t]) ∧ Upd (fun k => B ≤ k) w w' := by
  have rd : Rd w 3 ⟨some ⟨g, 0, none⟩, 1, 1⟩ (tyRow t) := hb.rd (z := 3) (o := 0) (n := 1) (c := 1) (by simp [tyRow])
  obtain ⟨r', w', h1, h2, h3, h4, _⟩ := o.row.append (t := 22) (ty := 22) tab_ok (by rfl) (by rfl) (by decide) rd (fun v hv => tyFlat_ones [t] v (by simpa [tyFlat] using hv)) (by dsimp only; omega) (by dsimp only; omega) hB
  have keep : ∀ {s : Sl} {xs : List Value}, Own w B 3 1 s xs → Own w' B 3 1 s xs := fun h => h.upd h4 fun p hp => by
    rintro ⟨q, hq, e⟩
    exact own_ne h o.row (by decide) p q hp hq e
  refine ⟨r', w', h1, h2, ⟨by rw [tyFlat_append]; simpa [tyFlat] using h3, fun u hu => ?_⟩, h4.mono fun k _ hn => ?_⟩
  · rcases List.mem_append.1 hu with h | h
    · exact keep (o.parts u h)
    · rw [List.mem_singleton.1 h]; exact keep ht
  · rintro ⟨p, hp, rfl⟩
    exact hn (o.row.base p hp).1
theorem mv_in {k : Nat} {b n : Int} (h : There k n) (hk : k ≤ 30) (hb : b = 0 ∨ b = (k : Int)) : -9223372036854775808 ≤ n + b ∧ n + b ≤ 9223372036854775807 := by
  unfold There at h
  rcases hb with rfl | rfl <;> omega
theorem typescopied_walk (w : World) (v0 : Value) (x0 : (Dt.sl 40 TyR).T) (h0 : (Par.one (.sl 40 TyR)).Is w v0 x0) :
    Calls Try.prog 5 #[v0] w fun e w' => e = .returned (.bool true) ∧ Ext w w' := by
  obtain ⟨T0, rfl, hc, hn, hT0, ha0⟩ := is_types h0
  obtain ⟨l, xl⟩ := x0
  clear h0
  dsimp only at *
  refine vc_5 l _ _ ?_
  simp only [eq_self, false_or, or_false, true_and, and_true, decide_eq_true_eq, decide_eq_false_iff_not, gd_st, gd_sf, exists_eq_left', exists_eq_left, Option.some.injEq, Sl.eta, Nat.reduceLeDiff, Int.reduceLE, Int.reduceLT, Int.reduceEq, Int.reduceNe, Nat.reduceMul, Nat.reduceAdd, Nat.reduceSub, Int.toNat_natCast, beq_iff_eq, bne_iff_ne, beq_eq_false_iff_ne, bne_eq_false_iff_eq, pick_and, pick_or, Bool.and_eq_true, Bool.or_eq_true, Bool.and_eq_false_iff, Bool.or_eq_false_iff, ne_eq, not_false_eq_true, Bool.not_eq_true', Bool.not_eq_false', reduceCtorEq, Nat.le_refl, Nat.zero_mul, Nat.mul_one, Nat.zero_add, Int.reduceToNat, ones, one, add_mk, Decidable.not_not, cond_true, cond_false, true_implies, false_implies, implies_true, Bool.not_true, Bool.not_false]
  refine ⟨(shown_spec w).mono ?_⟩
  rintro e w1 ⟨rfl, x1⟩
  have hl0 := hT0.len
  refine ⟨_, rfl, fun s w' => w' = w1 ∧ ∃ T, Tys w1 s T ∧ ArgT T ∧ T.length ≤ 30, ⟨fun h => ⟨by omega, rfl, _, cut_tys (hT0.ext x1) (by omega), ha0.take 30, by rw [List.length_take]; omega⟩, fun h => ⟨rfl, T0, hT0.ext x1, ha0, by omega⟩⟩, ?_⟩
  rintro _ s w1 ⟨rfl, T, hT, ha, hm⟩
  refine ⟨(New_spec hT ha.p15).mono ?_⟩
  rintro e w2 ⟨x2, ⟨hne, rfl⟩ | ⟨he, g, rfl, ht⟩⟩
  · exact ⟨_, _, rfl, fun _ => ⟨fun _ => ⟨rfl, x1.trans x2⟩, fun h => (hne h).elim⟩, fun h => (by cases h)⟩
  have hR := rightT_ok.1 he
  have hT2 := hT.ext x2
  have hsl := hT.len
  have hLl : (T.map (·.1)).length = T.length := List.length_map ..
  have x02 := x1.trans x2
  let L := T.map (·.1)
  change Right L at hR
  change L.length = T.length at hLl
  refine ⟨_, _, rfl, fun _ => ⟨fun h => (h rfl).elim, fun _ => ?_⟩, fun h => (by cases h)⟩
  refine ⟨fun s1 h w' => 0 ≤ h ∧ h ≤ 2 ∧ Ext w2 w' ∧ ∃ A, TyOwn w' w2.heap.size s1 A ∧ A.map (·.1) = pre L h.toNat, fun _ h _ => (2 - h).toNat, ⟨by omega, by omega, .refl _, [], ⟨Own.nil .., fun t ht => by cases ht⟩, rfl⟩, ?_⟩
  rintro _ s1 h w3 ⟨m0, m1, x3, A, oA, hA⟩
  refine ⟨fun hh => ?_, fun hh => ?_⟩
  · obtain ⟨h, rfl⟩ : ∃ k : Nat, h = k := ⟨h.toNat, by omega⟩
    rw [Int.toNat_natCast] at hA
    rw [hsl, ← hLl]
    obtain ⟨b, hbw, hbe, hb⟩ : ∃ b : Int, IntKind.i64.wrap ((h : Int) * (L.length : Int)) = b ∧ (h : Int) * (L.length : Int) = b ∧ (b = 0 ∨ b = (L.length : Int)) := by
      have : (h : Int) * (L.length : Int) = 0 ∨ (h : Int) * (L.length : Int) = L.length := by
        rcases (show h = 0 ∨ h = 1 by omega) with rfl | rfl
        · exact .inl (by simp)
        · exact .inr (by simp)
      exact ⟨_, wrap_i64 (by omega) (by omega), rfl, this⟩
    rw [hbw]
    have hpre : pre L (h + 1) = pre L h ++ L.map (mvT b) := by rw [pre, hbe]
    refine ⟨fun s2 i w' => 0 ≤ i ∧ i ≤ L.length ∧ Ext w2 w' ∧ ∃ A, TyOwn w' w2.heap.size s2 A ∧ A.map (·.1) = pre L h ++ (L.map (mvT b)).take i.toNat, fun _ i _ => (L.length - i).toNat, ⟨by omega, by omega, x3, A, oA, by simpa using hA⟩, ?_⟩
    rintro _ s2 i w4 ⟨i0, i1, x4, A', oA', hA'⟩
    refine ⟨fun hi => ?_, fun hi => ⟨⟨by (first | (rw [wrap_i64 (by omega) (by omega)]; omega) | (dsimp only; rw [wrap_i64 (by omega) (by omega)]; omega) | (dsimp only; omega)), by (first | (rw [wrap_i64 (by omega) (by omega)]; omega) | (dsimp only; rw [wrap_i64 (by omega) (by omega)]; omega) | (dsimp only; omega)), x4, A', oA', ?_⟩, by (first | (rw [wrap_i64 (by omega) (by omega)]; omega) | (dsimp only; rw [wrap_i64 (by omega) (by omega)]; omega) | (dsimp only; omega))⟩⟩
    rotate_left
    · rw [hA', wrap_i64 (by omega) (by omega), show ((h : Int) + 1).toNat = h + 1 by omega, hpre, List.take_of_length_le (by rw [List.length_map]; omega)]
    obtain ⟨i, rfl⟩ : ∃ j : Nat, i = j := ⟨i.toNat, by omega⟩
    rw [Int.toNat_natCast] at hA' ⊢
    obtain ⟨t, hti, htm, hmm⟩ := getM (T := T) (i := i) (by omega)
    have ok := hR.ok t.1 (List.mem_of_getElem? hmm)
    have hAl : A'.length ≤ 60 := by
      have := congrArg List.length hA'
      have e2 : (pre L h).length ≤ 30 := by
        rcases (show h = 0 ∨ h = 1 by omega) with rfl | rfl <;> simp [pre]
        omega
      simp at this
      omega
    have hs2 := oA'.tys.len
    have hpl := (hT2.parts t htm).leni
    have few := ok.few
    refine ⟨fun a w' => ∃ g, a = some ⟨g, 0, none⟩ ∧ w4.heap.size ≤ g ∧ Blk w' g 41 [.int .i64 t.1.kind, .slice none 0 0, .int .i64 (mv b t.1.of)] ∧ Ext w4 w', fun w5 q5 => ?_, ?_⟩
    · have x5 := q5.ext
      obtain ⟨p, hp, hc⟩ := (hT2.ext (x4.trans x5)).cell hti
      have fr : ∀ {w'}, Upd (fun k => w5.heap.size ≤ k) w5 w' → Ext w5 w' := fun u => (Ext.refl w5).fresh u fun k hk => hk
      have mo := mv_in ok.of (by omega) hb
      refine ⟨fun k => w5.heap.size ≤ k, i0, hi, p, hp, t.1.kind, fun w' u => Upd.cell (fr u) (hc 0 _ rfl) not_false, i0, hi, p, hp, t.1.of, fun w' u => Upd.cell (fr u) (hc 2 _ rfl) not_false, ⟨(moved_spec t.1.of b w5 mo.1 mo.2).mono ?_⟩, fun w6 n6 => ⟨n6.ext.toS, ⟨(moved_spec t.1.of b w6 mo.1 mo.2).mono ?_⟩⟩⟩
      · rintro e w5 ⟨rfl, rfl⟩
        refine ⟨_, rfl, .refl _ _, by simp [len', wr, splice, rep], fun w6 n6 => ⟨n6.ext.toS, by simp [len', wr, splice, rep], (Blk.new n6).canSetN 0 3 (by simp), fun w7 s7 => ?_⟩⟩
        have k7 := s7.blk (Blk.new n6)
        simp only [setsL, List.set] at k7
        refine ⟨s7.upd.mono fun k _ hn e => hn (Nat.le_of_eq e.symm), _, rfl, x5.size, k7, x5.trans (n6.ext.fresh s7.upd (by rintro i rfl; exact Nat.le_refl _))⟩
      · rintro e w6 ⟨rfl, rfl⟩
        refine ⟨_, rfl, .refl _ _, by simp [len', wr, splice, rep], by simp [len', wr, splice, rep], (Blk.new n6).canSetN 0 3 (by simp), fun w7 s7 => ?_⟩
        have k7 := s7.blk (Blk.new n6)
        simp only [setsL, List.set] at k7
        refine ⟨s7.upd.mono fun k _ hn e => hn (Nat.le_of_eq e.symm), _, rfl, x5.size, k7, x5.trans (n6.ext.fresh s7.upd (by rintro i rfl; exact Nat.le_refl _))⟩
    rintro _ a w5 ⟨g, rfl, hg, k5, x5⟩
    refine ⟨fun j w' => 0 ≤ j ∧ j ≤ t.1.parts.length ∧ Ext w4 w' ∧ ∃ ps, Own w' w4.heap.size 3 1 ps (iv ((t.1.parts.map (mv b)).take j.toNat)) ∧ Blk w' g 41 [.int .i64 t.1.kind, .slice ps.a ps.n ps.c, .int .i64 (mv b t.1.of)], fun j _ => (t.1.parts.length - j).toNat,
      ⟨by omega, by omega, x5, ⟨none, 0, 0⟩, Own.nil .., k5⟩, ?_⟩
    rintro _ j w6 ⟨j0, j1, x6, ps, ops, k6⟩
    obtain ⟨p, hp, hc⟩ := (hT2.ext (x4.trans x6)).cell hti
    refine ⟨i0, hi, p, hp, t.2, hc 1 _ rfl, fun hj => ?_, fun hj => ?_⟩
    · intro w7 q7
      have x7 := q7.ext
      have x47 := x6.trans x7
      obtain ⟨j, rfl⟩ : ∃ k : Nat, j = k := ⟨j.toNat, by omega⟩
      rw [Int.toNat_natCast] at ops
      obtain ⟨p7, hp7, hc7⟩ := (hT2.ext (x4.trans x47)).cell hti
      obtain ⟨pp, v, hpp, hv, hcv⟩ := ((hT2.ext (x4.trans x47)).parts t htm).intl j (by omega)
      rw [Nat.mul_one] at hcv
      have k7 := k6.ext x7
      have o7 := ops.ext x7
      have mo := mv_in (ok.parts v (List.mem_of_getElem? hv)) (by omega) hb
      refine ⟨fun _ => False, _, rfl, ps, fun w' u => (k7.ext u).cell 1, i0, hi, p7, hp7, t.2, fun w' u => Upd.cell u (hc7 1 _ rfl) not_false, j0, by omega, pp, hpp, v, fun w' u => Upd.cell u hcv not_false, ⟨(moved_spec v b w7 mo.1 mo.2).mono ?_⟩⟩
      rintro e w7 ⟨rfl, rfl⟩
      refine ⟨_, rfl, .refl _ _, fun w8 n8 => ⟨n8.ext, ?_⟩⟩
      have rd8 : Rd w8 1 ⟨some ⟨w7.heap.size, 0, none⟩, 1, 1⟩ [.int .i64 (mv b v)] := (Blk.new n8).rd (z := 1) (o := 0) (n := 1) (c := 1) (by simp)
      have o8 := o7.ext n8.ext
      have hpsn := o8.rd.leni
      rw [List.length_take, List.length_map] at hpsn
      have z48 := (x47.trans n8.ext).size
      obtain ⟨r9, w9, hr9, hn9, o9, u9, hb9⟩ := o8.append (t := 34) (ty := 34) tab_ok (by rfl) (by rfl) (by decide) rd8 (fun v hv => by simp at hv; subst hv; trivial) (by dsimp only; omega) (by dsimp only; omega) z48
      have k9 := (k7.ext n8.ext).upd u9 (by
        rintro ⟨p, hp, he⟩
        exact own_blk_ne o8 (k7.ext n8.ext) (by decide) p hp he.symm)
      have x49 : Ext w4 w9 := (x47.trans n8.ext).fresh u9 fun k hk => by
        obtain ⟨p, hp, rfl⟩ := hk
        exact (o8.base p hp).1
      refine ⟨r9, w9, hr9, _, rfl, k9.canSet 1 (by simp), fun w10 s10 => ?_⟩
      have s10 : SetW w9 ⟨g, 1, none⟩ [.slice r9.a r9.n r9.c] w10 := s10
      have k10 := s10.blk1 k9
      have o10 := o9.upd s10.upd fun p hp e => own_blk_ne o9 k9 (by decide) p hp e
      refine ⟨⟨by (first | (rw [wrap_i64 (by omega) (by omega)]; omega) | (dsimp only; rw [wrap_i64 (by omega) (by omega)]; omega) | (dsimp only; omega)), by (first | (rw [wrap_i64 (by omega) (by omega)]; omega) | (dsimp only; rw [wrap_i64 (by omega) (by omega)]; omega) | (dsimp only; omega)), x49.fresh s10.upd (by rintro i rfl; exact hg), r9, ?_, k10⟩, by (first | (rw [wrap_i64 (by omega) (by omega)]; omega) | (dsimp only; rw [wrap_i64 (by omega) (by omega)]; omega) | (dsimp only; omega))⟩
      rw [wrap_i64 (by omega) (by omega), show ((j : Int) + 1).toNat = j + 1 by omega, List.take_add_one, List.getElem?_map, hv]
      rw [iv_append]
      exact o10
    · have hjl : j = t.1.parts.length := by omega
      subst hjl
      rw [Int.toNat_natCast, List.take_of_length_le (by simp)] at ops
      refine ⟨_, rfl, t.1.kind, ps, mv b t.1.of, rfl, ⟨k6.cell 0, k6.cell 1, k6.cell 2⟩, rfl, fun w7 n7 => ?_⟩
      have z24 := x4.size
      have z67 := (x6.trans n7.ext).size
      obtain ⟨r8, w8, hr8, hn8, o8, u8⟩ := (oA'.ext (x6.trans n7.ext)).add (t := (mvT b t.1, ps)) (Blk.new n7) ((ops.ext n7.ext).mono z24) (by omega) (by omega)
      have x28 : Ext w2 w8 := (x4.trans (x6.trans n7.ext)).fresh u8 fun k hk => hk
      refine ⟨r8, w8, hr8, ⟨by (first | (rw [wrap_i64 (by omega) (by omega)]; omega) | (dsimp only; rw [wrap_i64 (by omega) (by omega)]; omega) | (dsimp only; omega)), by (first | (rw [wrap_i64 (by omega) (by omega)]; omega) | (dsimp only; rw [wrap_i64 (by omega) (by omega)]; omega) | (dsimp only; omega)), x28, _, o8, ?_⟩, by (first | (rw [wrap_i64 (by omega) (by omega)]; omega) | (dsimp only; rw [wrap_i64 (by omega) (by omega)]; omega) | (dsimp only; omega))⟩
      rw [wrap_i64 (by omega) (by omega), show ((i : Int) + 1).toNat = i + 1 by omega, List.take_add_one, List.getElem?_map, hmm, List.map_append, hA', List.append_assoc]
      rfl
  · have h2 : h = 2 := by omega
    subst h2
    rw [hsl, ← hLl]
    have hA2 : A.map (·.1) = pre L 2 := hA
    refine ⟨fun w' => Ext w2 w' ∧ ∃ A', TyOwn w' w2.heap.size s1 A' ∧ A'.map (·.1) = twice L, ⟨fun h0 => ?_, fun h0 => ⟨x3, A, oA, ?_⟩⟩, ?_⟩
    · cases A with
      | nil =>
        have := congrArg List.length hA2
        simp [pre] at this
        omega
      | cons t A =>
        have hn1 := oA.tys.len
        obtain ⟨p, hp, hc⟩ := oA.tys.cell (i := 0) (t := t) rfl
        have htw : t.1 = mvT 0 L[0] := by
          have : (pre L 2)[0]? = some t.1 := by rw [← hA2]; rfl
          have e2 : pre L 2 = L.map (mvT 0) ++ L.map (mvT L.length) := by simp [pre]
          rw [e2, List.getElem?_append_left (by simp; omega), List.getElem?_map, List.getElem?_eq_getElem (by omega)] at this
          simp at this
          exact this.symm
        have hof : t.1.of = L[0].of := by rw [htw]; exact mv_zero _
        have ok := hR.ok L[0] (List.getElem_mem _)
        have mo := mv_in ok.of (by omega) (.inr rfl)
        rw [← hof] at mo
        simp only [List.length_cons] at hn1
        refine ⟨by omega, p, hp, t.1.of, hc 2 _ rfl, ⟨(moved_spec t.1.of L.length w3 mo.1 mo.2).mono ?_⟩⟩
        rintro e w3 ⟨rfl, rfl⟩
        refine ⟨_, rfl, by omega, p, hp, ?_, fun w4 s4 => ?_⟩
        · rw [add_add]; exact oA.row.canAt hp (by omega)
        · rw [add_add] at s4
          obtain ⟨o4, u4⟩ := oA.row.setAt hp (by omega) s4
          refine ⟨x3.fresh u4 fun k hk => by rw [hk]; exact (oA.row.base p hp).1, (⟨t.1.kind, t.1.parts, mv L.length t.1.of⟩, t.2) :: A, ⟨o4, fun u hu => ?_⟩, ?_⟩
          · have keep : ∀ v ∈ t :: A, Own w4 w2.heap.size 3 1 v.2 (iv v.1.parts) := fun v hv => (oA.parts v hv).upd u4 fun q hq e => own_ne (oA.parts v hv) oA.row (by decide) q p hq hp e
            rcases List.mem_cons.1 hu with rfl | h
            · exact keep t (by simp)
            · exact keep u (by simp [h])
          · unfold twice
            rw [← hA2]; rfl
    · rw [hA2]
      have : L = [] := List.eq_nil_of_length_eq_zero (by omega)
      rw [this]; rfl
    rintro _ w4 ⟨x4, A', oA', hA'⟩
    have hRt := twice_right hR (by omega)
    refine ⟨(New_spec oA'.tys (fun t ht => ?_)).mono ?_⟩
    · have := (hRt.ok t.1 (by rw [← hA']; exact List.mem_map_of_mem ht)).few
      omega
    rintro e w5 ⟨x5, hr⟩
    rw [hA'] at hr
    rcases hr with ⟨hne, _⟩ | ⟨_, g2, rfl, t5⟩
    · exact (hne (rightT_ok.2 hRt)).elim
    refine ⟨_, _, rfl, fun h => (h rfl).elim, fun _ => ⟨fun n w' => 2 ≤ n ∧ n ≤ L.length + 2 ∧ Ext w5 w', fun n _ => (L.length + 2 - n).toNat, ⟨by omega, by omega, .refl _⟩, ?_⟩⟩
    rintro _ n w6 ⟨n0, n1, x6⟩
    rw [wrap_i64 (n := (L.length : Int) + 2) (by omega) (by omega)]
    refine ⟨fun hlt => ?_, fun hge => ((x02.trans x4).trans x5).trans x6⟩
    rw [wrap_i64 (n := n + (L.length : Int)) (by omega) (by omega)]
    refine ⟨(alike_spec (t5.ext x6) n (n + L.length)).mono ?_⟩
    rintro e w7 ⟨r, rfl, hr, x7⟩
    have al := twice_alk hR (i := n.toNat) (by omega) (by omega)
    rw [show n.toNat + L.length = (n + (L.length : Int)).toNat by omega] at al
    refine ⟨_, rfl, fun _ => ⟨(ref_spec ((t5.ext x6).ext x7) n).mono ?_⟩, fun h => ?_⟩
    · rintro e w7 ⟨rfl, rfl⟩
      refine ⟨_, rfl, ⟨(ref_spec ((t5.ext x6).ext x7) _).mono ?_⟩⟩
      rintro e w7 ⟨rfl, rfl⟩
      refine ⟨_, rfl, fun h => (h ?_).elim, fun _ => ⟨⟨by (first | (rw [wrap_i64 (by omega) (by omega)]; omega) | (dsimp only; rw [wrap_i64 (by omega) (by omega)]; omega) | (dsimp only; omega)), by (first | (rw [wrap_i64 (by omega) (by omega)]; omega) | (dsimp only; rw [wrap_i64 (by omega) (by omega)]; omega) | (dsimp only; omega)), x6.trans x7⟩, by (first | (rw [wrap_i64 (by omega) (by omega)]; omega) | (dsimp only; rw [wrap_i64 (by omega) (by omega)]; omega) | (dsimp only; omega))⟩⟩
      unfold refT
      rw [(alk_told hRt (by omega) (by omega) al).1]
    · rw [h] at hr
      exact absurd (hr.2 ⟨by omega, by omega, al⟩) (by decide)
end Go.Proofs.Ytiljdcopkgmcbaa.V
