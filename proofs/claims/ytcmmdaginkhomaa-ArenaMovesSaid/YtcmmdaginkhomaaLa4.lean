/-
  laid: the walk.
-/
import Derived.Test.YtcmmdaginkhomaaLa3
namespace Go.Proofs.Ytcmmdaginkhomaa.V
open Go Go.RowKit
set_option linter.unusedVariables false
set_option linter.unusedSimpArgs false
set_option maxRecDepth 100000

theorem foldl_take {α β : Type} (f : β → α → β) (z : β) {l : List α} {j : Nat} {t : α} (h : l[j]? = some t) : (l.take (j + 1)).foldl f z = f ((l.take j).foldl f z) t := by
  rw [take_snoc h, List.foldl_append]; rfl
theorem foldl_inv {n : Nat} (hn : n ≤ 65536) (l : List Th) : LInv n (l.foldl (layT n) []) := by
  have : ∀ (l : List Th) (os : List Lo), LInv n os → LInv n (l.foldl (layT n) os) := by
    intro l
    induction l with
    | nil => intro os h; exact h
    | cons t l ih => intro os h; exact ih _ (h.lay hn t)
  exact this _ _ (LInv.nil n)
theorem layT_len {n : Nat} {os : List Lo} (h : LInv n os) : 2 * os.length ≤ n := by
  have := h.fit
  have key : ∀ l : List Lo, 2 * l.length ≤ (encs l).length := by
    intro l
    induction l with
    | nil => exact Nat.le_refl _
    | cons o l ih => rw [encs_clen, List.length_cons]; omega
  have := key os
  omega
/-- a word appended to a row of one's own -/
theorem push1 {w w1 : World} {B x : Nat} {c : Sl} {xs : List Nat} (o : Own w B 22 1 c (uv xs)) (hB : B ≤ w.heap.size) (hl : xs.length ≤ 1000000) (n1 : NewW w (.cells #[.int .u64 (x : Nat)] 22) w1) :
    ∃ c' w', Runs Try.prog (Builtin.append_ #[37, 37] 37 #[.slice c.a c.n c.c, .slice (some ⟨w.heap.size, 0, none⟩) 1 1]) w1 (.slice c'.a c'.n c'.c) w' ∧ Own w' B 22 1 c' (uv (xs ++ [x])) ∧ Upd (fun k => ∃ q, c.a = some q ∧ k = q.block) w w' ∧
      (∀ q, c'.a = some q → c.a = some q ∨ w.heap.size ≤ q.block) ∧ ∀ g T cs, Blk w g T cs → T ≠ 22 → Blk w' g T cs := by
  have hn := o.rd.lenu
  have rd : Rd w1 1 ⟨some ⟨w.heap.size, 0, none⟩, 1, 1⟩ (uv [x]) := (Blk.new n1).rd (z := 1) (o := 0) (n := 1) (c := 1) (by simp)
  obtain ⟨c', w', hr, _, o', u', hcase⟩ := (o.ext n1.ext).append (t := 37) (ty := 37) tab_ok (by rfl) (by rfl) (by decide) rd (uv_ones _) (by dsimp only; omega) (by dsimp only; omega) (by have := n1.ext.size; omega)
  have z := n1.ext.size
  refine ⟨c', w', hr, by rw [uv_append]; exact o', n1.ext.toS.trans u' fun i hi hn => ⟨hn, hn⟩, fun q hq => ?_, fun g T cs hb hne => ?_⟩
  · rcases hcase q hq with h | h
    · exact .inl h
    · exact .inr (by omega)
  · refine (hb.ext n1.ext).upd u' ?_
    rintro ⟨q, hq, he⟩
    exact own_blk_ne o hb (fun h => hne h.symm) q hq he.symm
theorem laid_spec {W0 w : World} {b g N : Nat} {ts : List Th} {s : Sl} (hN : N ≤ 65536) (h : ArW 92 w b g (laidA N [])) (ht : ThsIs W0 s ts) (x0 : Ext W0 w) (hlo : W0.heap.size ≤ b ∧ W0.heap.size ≤ g) (hm : s.n ≤ 4000000000000000) :
    Calls Try.prog 18 #[.pointer (some ⟨g, 0, none⟩), .slice s.a s.n s.c] w fun e w' => ∃ (s0 s1 s2 : Sl) (cl : List Sl), e = .returned (.tuple #[.slice s0.a s0.n s0.c, .slice s1.a s1.n s1.c, .slice s2.a s2.n s2.c, .bool true]) ∧ Ld w w' b g N (laidL N ts) s0 s1 s2 cl := by
  refine vc_18 _ _ _ _ ?_
  have hbl := h.ws.lt; have hgl := h.hd.lt
  have htn := ht.n
  simp only [eq_self, false_or, or_false, true_and, and_true, decide_eq_true_eq, decide_eq_false_iff_not, gd_st, gd_sf, exists_eq_left', exists_eq_left, Option.some.injEq, Sl.eta, Nat.reduceLeDiff, Int.reduceLE, Int.reduceLT, Int.reduceEq, Int.reduceNe, Nat.reduceMul, Nat.reduceAdd, Nat.reduceSub, Int.toNat_natCast, beq_iff_eq, bne_iff_ne, beq_eq_false_iff_ne, bne_eq_false_iff_eq, pick_and, pick_or, Bool.and_eq_true, Bool.or_eq_true, Bool.and_eq_false_iff, Bool.or_eq_false_iff, ne_eq, not_false_eq_true, Bool.not_eq_true', Bool.not_eq_false', reduceCtorEq, Nat.le_refl, Nat.zero_mul, Nat.mul_one, Nat.zero_add, Int.reduceToNat, ones, one, add_mk, Decidable.not_not, cond_true, cond_false, true_implies, false_implies, implies_true, Bool.not_true, Bool.not_false]
  have z0 := x0.size
  have extU : ∀ {w' : World}, Upd (fun k => k = b ∨ k = g) w w' → Ext W0 w' := fun u => x0.fresh u (by rintro i (rfl | rfl) <;> omega)
  refine ⟨fun s0 s1 s2 n w' => ∃ (j : Nat) (cl : List Sl), n = j ∧ j ≤ ts.length ∧ j ≤ 200 ∧ Ld w w' b g N ((ts.take j).foldl (layT N) []) s0 s1 s2 cl, fun _ _ _ n _ => (200 - n).toNat,
    ⟨0, [], rfl, by omega, by omega, h, Own.nil _ _ _ _, Own.nil _ _ _ _, Own.nil _ _ _ _, rfl, fun k o c ho => (by cases ho), fun c hc => (by cases hc), Ext.toS (Ext.refl w), hbl, hgl⟩, ?_⟩
  rintro _ s0 s1 s2 n w1 ⟨j, cl, rfl, hj, hj2, ld⟩
  have fin : ¬ (j < ts.length ∧ j < 200) → (ts.take j).foldl (layT N) [] = laidL N ts := by
    intro hh
    unfold laidL
    rcases Nat.lt_or_ge j ts.length with h1 | h1
    · rw [show j = 200 by omega]
    · rw [List.take_of_length_le h1, List.take_of_length_le (by omega)]
  refine ⟨fun hlt => ⟨fun hlt2 => ?_, fun hge => ⟨s0, s1, s2, cl, rfl, by rw [← fin (by omega)]; exact ld⟩⟩, fun hge => ⟨s0, s1, s2, cl, rfl, by rw [← fin (by omega)]; exact ld⟩⟩
  obtain ⟨t, hts⟩ : ∃ t, ts[j]? = some t := ⟨_, List.getElem?_eq_getElem (by omega)⟩
  have hfold := foldl_take (layT N) [] hts
  have hinv := foldl_inv hN (ts.take j)
  generalize hos : (ts.take j).foldl (layT N) [] = os at ld hfold hinv fin
  have hol := layT_len hinv
  obtain ⟨p, sc, sn, hp, hK, hT, hcs, hns, hmem⟩ := ht.at_ j t hts
  have hfit := hinv.fit
  refine ⟨by omega, hlt, p, hp, _, _, sc, sn, rfl, by rw [Int.toNat_natCast]; exact (hmem w1 (extU ld.u)).1, fun w2 n2 => ⟨rfl, (Blk.new n2).canSetN 0 4 (by simp), fun v s3 => ?_⟩⟩
  have z1 := ld.u.size; have z2 := n2.size; have z3 := s3.size
  have tb : Blk v w1.heap.size 94 [.int .i64 t.K, .int .i64 t.T, .slice sc.a sc.n sc.c, .slice sn.a sn.n sn.c] := s3.blk (Blk.new n2)
  have u3 : Upd (fun i => i = w1.heap.size) w2 v := s3.upd
  have xv : Ext w1 v := n2.ext.fresh u3 (by rintro i rfl; exact Nat.le_refl _)
  have lv := ld.ext xv
  have hk3 := pk_lt (c := t.K) (n := 3) (by decide)
  have hk256 := pk_lt (c := t.T) (n := 256) (by decide)
  have ek : IntKind.i64.wrap (1 + pk t.K 3) = 1 + pk t.K 3 := wrap_i64 (by omega) (by omega)
  refine ⟨fun a w' => ∃ hb, a = some ⟨hb, 0, none⟩ ∧ HB w' hb ⟨1 + pk t.K 3, pk t.T 256, 0, 0⟩ ∧ v.heap.size ≤ hb ∧ Ext v w', ?_, ?_⟩
  · intro v1 q1
    have tb1 := tb.ext q1.ext
    have zq := q1.ext.size
    have made : ∀ {y y' y'' : World}, Ext v1 y → NewW y (.cells #[.int .i64 0, .int .i64 0, .int .i64 0, .int .u64 0] 24) y' → SetW y' ⟨y.heap.size, 0, none⟩ [.int .i64 (1 + pk t.K 3), .int .i64 (pk t.T 256), .int .i64 0, .int .u64 0] y'' →
        Upd (fun k => v1.heap.size ≤ k) y' y'' ∧ ∃ hb, (some ⟨y.heap.size, 0, none⟩ : Option Addr) = some ⟨hb, 0, none⟩ ∧ HB y'' hb ⟨1 + pk t.K 3, pk t.T 256, 0, 0⟩ ∧ v.heap.size ≤ hb ∧ Ext v y'' := by
      intro y y' y'' x n s
      obtain ⟨b1, x1⟩ := HB.made (h := ⟨1 + pk t.K 3, pk t.T 256, 0, 0⟩) n s
      have := x.size
      exact ⟨s.upd.mono fun i _ hn e => hn (by dsimp only at e; omega), _, rfl, b1, by omega, (q1.ext.trans x).trans x1⟩
    refine ⟨fun k => v1.heap.size ≤ k, _, fun w' u => (tb1.upd u (by omega)).cell 0, _, fun w' u => (tb1.upd u (by omega)).cell 1, ⟨⟨(pick_spec t.K 3 v1 hK.1 hK.2 (by decide)).mono ?_⟩, fun v2 m2 => ⟨m2.ext.toS, ⟨(pick_spec t.K 3 v2 hK.1 hK.2 (by decide)).mono ?_⟩⟩⟩⟩
    · rintro e y ⟨rfl, rfl⟩
      refine ⟨_, rfl, Ext.toS (Ext.refl _), ⟨(pick_spec t.T 256 _ hT.1 hT.2 (by decide)).mono ?_⟩, fun v2 m2 => ⟨m2.ext.toS, ⟨(pick_spec t.T 256 v2 hT.1 hT.2 (by decide)).mono ?_⟩⟩⟩
      · rintro e y ⟨rfl, rfl⟩
        refine ⟨_, rfl, Ext.toS (Ext.refl _), by simp [len', wr], fun y1 m1 => ⟨m1.ext.toS, by simp [len', wr], HB.can m1, fun y2 m2 => ?_⟩⟩
        rw [ek] at m2
        exact made (Ext.refl _) m1 m2
      · rintro e y ⟨rfl, rfl⟩
        refine ⟨_, rfl, Ext.toS (Ext.refl _), by simp [len', wr], by simp [len', wr], HB.can m2, fun y2 m3 => ?_⟩
        rw [ek] at m3
        exact made (Ext.refl _) m2 m3
    · rintro e y ⟨rfl, rfl⟩
      refine ⟨_, rfl, Ext.toS (Ext.refl _), ⟨(pick_spec t.T 256 _ hT.1 hT.2 (by decide)).mono ?_⟩⟩
      rintro e y ⟨rfl, rfl⟩
      refine ⟨_, rfl, Ext.toS (Ext.refl _), by simp [len', wr], by simp [len', wr], HB.can m2, fun y2 m3 => ?_⟩
      rw [ek] at m3
      exact made (Ext.refl _) m2 m3
  rintro _ a v1 ⟨hb, rfl, hb1, hhb, xv1⟩
  intro v2 m2
  have hbl1 := hb1.lt
  have zM : v.heap.size ≤ v1.heap.size := xv1.size
  have zm2 := m2.size
  have ownM : Own v2 v1.heap.size 22 1 ⟨some ⟨v1.heap.size, 0, none⟩, 0, 0⟩ (uv []) := by
    have := Own.lit (z := 1) (n := 0) (cs := []) m2 (Nat.le_refl _) rfl (by decide)
    exact this
  have x2 := xv1.trans m2.ext
  have hb2 := hb1.ext m2.ext
  have fresh : ∀ {w' w'' : World} {c : Sl} {xs : List Value}, Own w' v1.heap.size 22 1 c xs → Ext v w' → Upd (fun k => ∃ q, c.a = some q ∧ k = q.block) w' w'' → Ext v w'' := fun o x u =>
    x.fresh u (by rintro i ⟨q, hq, rfl⟩; have := (o.base q hq).1; omega)
  have done1 : ∀ i, i ≤ 9 → i ≤ t.cs.length → (i = 9 ∨ i = t.cs.length ∨ 1 + pk t.K 3 = 3) → (1 + pk t.K 3 = 3 → i = 0) → (t.cs.take i).map (· % 9223372036854775808) = cellsT os t := by
    intro i h1 h2 h3 h4
    unfold cellsT
    by_cases hk : 1 + pk t.K 3 = 3
    · rw [if_pos hk, h4 hk]; rfl
    · rw [if_neg hk]
      rcases h3 with h3 | h3 | h3
      · rw [h3]
      · rw [List.take_of_length_le (by omega), List.take_of_length_le (by omega)]
      · exact absurd h3 hk
  have done2 : ∀ i, i ≤ 9 → i ≤ t.ns.length → (i = 9 ∨ i = t.ns.length ∨ 1 + pk t.K 3 = 2) → (1 + pk t.K 3 = 2 → i = 0) → (t.ns.take i).map (nameT os) = namesT os t := by
    intro i h1 h2 h3 h4
    unfold namesT
    by_cases hk : 1 + pk t.K 3 = 2
    · rw [if_pos hk, h4 hk]; rfl
    · rw [if_neg hk]
      rcases h3 with h3 | h3 | h3
      · rw [h3]
      · rw [List.take_of_length_le (by omega), List.take_of_length_le (by omega)]
      · exact absurd h3 hk
  have hcl := cellsT_len os t
  refine ⟨fun c w' => Own w' v1.heap.size 22 1 c (uv (cellsT os t)) ∧ HB w' hb ⟨1 + pk t.K 3, pk t.T 256, 0, 0⟩ ∧ Ext v w' ∧ v1.heap.size ≤ w'.heap.size,
    ⟨fun c n w' => ∃ i : Nat, n = i ∧ i ≤ 9 ∧ i ≤ t.cs.length ∧ (1 + pk t.K 3 = 3 → i = 0) ∧ Own w' v1.heap.size 22 1 c (uv ((t.cs.take i).map (· % 9223372036854775808))) ∧ HB w' hb ⟨1 + pk t.K 3, pk t.T 256, 0, 0⟩ ∧ Ext v w' ∧ v1.heap.size ≤ w'.heap.size, fun _ n _ => (9 - n).toNat, ⟨0, rfl, by omega, by omega, fun _ => rfl, ownM, hb2, x2, by omega⟩, ?_⟩, ?_⟩
  · rintro _ c n y ⟨i, rfl, h9, hic, h30, o3, hb3, x3, hM⟩
    have hr := hmem y (extU (ld.u.still' (xv.trans x3)))
    have hsc := hr.2.1.lenu
    refine ⟨sc, (tb.ext x3).cell 2, fun hlt => ⟨fun hlt9 => ⟨_, rfl, _, hb3.cell 0, fun hk => ?_, fun hk => ⟨by rw [← done1 i h9 hic (.inr (.inr hk)) h30]; exact o3, hb3, x3, hM⟩⟩, fun hge => ⟨by rw [← done1 i h9 hic (.inl (by omega)) h30]; exact o3, hb3, x3, hM⟩⟩, fun hge => ⟨by rw [← done1 i h9 hic (.inr (.inl (by omega))) h30]; exact o3, hb3, x3, hM⟩⟩
    obtain ⟨q, x, hq, hx, hc⟩ := hr.2.1.word i (by omega)
    rw [Nat.mul_one] at hc
    have hxl := hcs x (List.mem_of_getElem? hx)
    have em : ((x : Nat) : Int).tmod 9223372036854775808 = ((x % 9223372036854775808 : Nat) : Int) := by rw [Int.tmod_eq_emod_of_nonneg (by omega)]; omega
    have ei : IntKind.i64.wrap ((i : Int) + 1) = ((i + 1 : Nat) : Int) := by rw [wrap_i64 (by omega) (by omega)]; omega
    refine ⟨sc, (tb.ext x3).cell 2, by omega, hlt, q, hq, _, by rw [Int.toNat_natCast]; exact hc, ?_⟩
    rw [em, ei]
    intro y1 n1
    obtain ⟨c', y2, hr2, o2, u2, _, hblk⟩ := push1 o3 hM (by rw [List.length_map, List.length_take]; omega) n1
    refine ⟨c', y2, hr2, ⟨i + 1, rfl, by omega, by omega, fun h => absurd h hk, ?_, hblk _ _ _ hb3 (by decide), fresh o3 x3 u2, by have := u2.size; omega⟩, by dsimp only; omega⟩
    rw [take_snoc hx, List.map_append]
    exact o2
  rintro _ c0 y0 ⟨o0, hb0, xy0, hM0⟩
  refine ⟨fun c w' => Own w' v1.heap.size 22 1 c (uv (mkT os t).2) ∧ HB w' hb ⟨1 + pk t.K 3, pk t.T 256, 0, (mkT os t).1.r⟩ ∧ Ext v w' ∧ v1.heap.size ≤ w'.heap.size,
    ⟨fun c n w' => ∃ i : Nat, n = i ∧ i ≤ 9 ∧ i ≤ t.ns.length ∧ (1 + pk t.K 3 = 2 → i = 0) ∧ Own w' v1.heap.size 22 1 c (uv (cellsT os t ++ (t.ns.take i).map (nameT os))) ∧ HB w' hb ⟨1 + pk t.K 3, pk t.T 256, 0, if 1 + pk t.K 3 = 1 then bitsT (cellsT os t).length i else 0⟩ ∧ Ext v w' ∧ v1.heap.size ≤ w'.heap.size, fun _ n _ => (9 - n).toNat,
      ⟨0, rfl, by omega, by omega, fun _ => rfl, by rw [List.take_zero, List.map_nil, List.append_nil]; exact o0, by
        have e : (if 1 + pk t.K 3 = 1 then bitsT (cellsT os t).length 0 else 0) = 0 := by split <;> simp [bitsT]
        rw [e]; exact hb0, xy0, hM0⟩, ?_⟩, ?_⟩
  · rintro _ c n y ⟨i, rfl, h9, hic, h20, o3, hb3, x3, hM⟩
    have hr := hmem y (extU (ld.u.still' (xv.trans x3)))
    have hsn := hr.2.2.leni
    have j3 : (i = 9 ∨ i = t.ns.length ∨ 1 + pk t.K 3 = 2) → Own y v1.heap.size 22 1 c (uv (mkT os t).2) ∧ HB y hb ⟨1 + pk t.K 3, pk t.T 256, 0, (mkT os t).1.r⟩ ∧ Ext v y ∧ v1.heap.size ≤ y.heap.size := by
      intro hh
      have e := done2 i h9 hic hh h20
      have el : (namesT os t).length = i := by rw [← e, List.length_map, List.length_take]; omega
      refine ⟨?_, ?_, x3, hM⟩
      · show Own y _ _ 1 c (uv (cellsT os t ++ namesT os t)); rw [← e]; exact o3
      · show HB y hb ⟨_, _, _, if 1 + pk t.K 3 = 1 then bitsT (cellsT os t).length (namesT os t).length else 0⟩; rw [el]; exact hb3
    refine ⟨sn, (tb.ext x3).cell 3, fun hlt => ⟨fun hlt9 => ⟨_, rfl, _, hb3.cell 0, fun hk => ?_, fun hk => j3 (.inr (.inr hk))⟩, fun hge => j3 (.inl (by omega))⟩, fun hge => j3 (.inr (.inl (by omega)))⟩
    obtain ⟨q, m, hq, hx, hc⟩ := hr.2.2.intl i (by omega)
    rw [Nat.mul_one] at hc
    have hml := hns m (List.mem_of_getElem? hx)
    have ei : IntKind.i64.wrap ((i : Int) + 1) = ((i + 1 : Nat) : Int) := by rw [wrap_i64 (by omega) (by omega)]; omega
    have hs0 := ld.r.rd.lenu
    rw [refsOf_length] at hs0
    have es : IntKind.i64.wrap ((s0.n : Int) + 1) = (os.length : Int) + 1 := by rw [wrap_i64 (by omega) (by omega)]; omega
    refine ⟨sn, (tb.ext x3).cell 3, by omega, hlt, q, hq, _, by rw [Int.toNat_natCast]; exact hc, ?_⟩
    rw [es, ei]
    refine ⟨(pick_spec m ((os.length : Int) + 1) y hml.1 hml.2 (by omega)).mono ?_⟩
    rintro e y' ⟨rfl, rfl⟩
    have hpk := pk_lt (c := m) (n := (os.length : Int) + 1) (by omega)
    refine ⟨_, rfl, fun x w' => x = ((nameT os m : Nat) : Int) ∧ w' = y', ⟨fun hlt => ?_, fun hge => ⟨?_, rfl⟩⟩, ?_⟩
    · obtain ⟨q', x, hq', hx', hc'⟩ := (lv.r.ext x3).rd.word (pk m ((os.length : Int) + 1)).toNat (by omega)
      rw [Nat.mul_one] at hc'
      refine ⟨hpk.1, hlt, q', hq', _, hc', ?_, rfl⟩
      unfold nameT
      rw [List.getD_eq_getElem?_getD, hx']; rfl
    · unfold nameT
      rw [List.getD_eq_getElem?_getD, List.getElem?_eq_none (by rw [refsOf_length]; omega)]; rfl
    rintro _ x y'' ⟨rfl, rfl⟩
    have hcn := o3.rd.lenu
    rw [List.length_append, List.length_map, List.length_take] at hcn
    have hcn' : c.n = (cellsT os t).length + i := by omega
    have nxt : uv (cellsT os t ++ (t.ns.take i).map (nameT os) ++ [nameT os m]) = uv (cellsT os t ++ (t.ns.take (i + 1)).map (nameT os)) := by
      rw [take_snoc hx, List.map_append, List.append_assoc]; rfl
    refine ⟨_, rfl, _, hb3.cell 0, fun hk1 => ⟨_, rfl, _, hb3.cell 3, ?_, _, rfl, hb3.canSet 3 (by simp), fun y1 s1 y2 n2' => ?_⟩, fun hk1 y1 n1 => ?_⟩
    · rw [wrap_u64 (by omega) (by omega)]; omega
    · have eb : bitV .or .u64 (((if 1 + pk t.K 3 = 1 then bitsT (cellsT os t).length i else 0) : Nat) : Int) (shlV .u64 1 (IntKind.u64.wrap (c.n : Int))) = ((bitsT (cellsT os t).length (i + 1) : Nat) : Int) := by
        rw [if_pos hk1, wrap_u64 (by omega) (by omega), shl_one (by omega), hcn']
        have b1 := bitsT_lt (cellsT os t).length i
        have b2 : 2 ^ ((cellsT os t).length + i) < 2 ^ 64 := Nat.pow_lt_pow_right (by decide) (by omega)
        rw [or_u64 _ _ (by omega) (by omega), bitsT_or]
      rw [eb] at s1
      have hb4 : HB y1 hb ⟨1 + pk t.K 3, pk t.T 256, 0, bitsT (cellsT os t).length (i + 1)⟩ := s1.blk1 hb3
      have u1 : Upd (fun i => i = hb) y'' y1 := s1.upd
      have o4 := o3.upd u1 (own_blk_ne o3 hb3 (by decide))
      have x4 : Ext v y1 := x3.fresh u1 (by rintro i rfl; omega)
      have z1 := u1.size
      obtain ⟨c', y3, hr3, o5, u5, _, hblk⟩ := push1 o4 (by omega) (by rw [List.length_append, List.length_map, List.length_take]; omega) n2'
      refine ⟨c', y3, hr3, ⟨i + 1, rfl, by omega, by omega, fun h => absurd h hk, by rw [← nxt]; exact o5, ?_, fresh o4 x4 u5, by have := u5.size; omega⟩, by dsimp only; omega⟩
      rw [if_pos hk1]
      exact hblk _ _ _ hb4 (by decide)
    · obtain ⟨c', y3, hr3, o5, u5, _, hblk⟩ := push1 o3 hM (by rw [List.length_append, List.length_map, List.length_take]; omega) n1
      refine ⟨c', y3, hr3, ⟨i + 1, rfl, by omega, by omega, fun h => absurd h hk, by rw [← nxt]; exact o5, ?_, fresh o3 x3 u5, by have := u5.size; omega⟩, by dsimp only; omega⟩
      rw [if_neg hk1] at hb3 ⊢
      exact hblk _ _ _ hb3 (by decide)
  rintro _ c y ⟨o3, hb3, x3, hM⟩
  have hcn := o3.rd.lenu
  have hmo := mkT_ok hN hfit t
  have hml := hmo.len
  have hmle := hmo.may.le
  refine ⟨_, rfl, hb3.canSet 2 (by simp), fun y1 s1 => ?_⟩
  have hb4 : HB y1 hb (mkT os t).1 := by
    have e : ((c.n : Nat) : Int) = (mkT os t).1.l := by omega
    rw [e] at s1
    exact s1.blk1 hb3
  have u1 : Upd (fun i => i = hb) y y1 := s1.upd
  have o4 := o3.upd u1 (own_blk_ne o3 hb3 (by decide))
  have x4 : Ext v y1 := x3.fresh u1 (by rintro i rfl; omega)
  have z1 := u1.size
  have l4 := lv.ext x4
  refine ⟨(left_spec l4.a).mono ?_⟩
  rintro e y2 ⟨rfl, q2⟩
  have hb5 := hb4.ext q2.ext
  have l5 := l4.ext q2.ext
  have o5 := o4.ext q2.ext
  have zv : v.heap.size ≤ y2.heap.size := (x4.trans q2.ext).size
  refine ⟨_, rfl, _, rfl, _, _, _, _, rfl, ⟨hb5.cell 0, hb5.cell 1, hb5.cell 2, hb5.cell 3⟩, ⟨(make_spec l5.a (mkT os t).1 o5.rd (by rintro q hq; have := (o5.base q hq).1; omega) (by omega) (fun x hx => by have := hmo.lt x hx; omega)).mono ?_⟩⟩
  rintro e y3 ⟨rfl, a6, u6⟩
  rw [make_laid hfit hmo] at a6 ⊢
  have hbb : hb ≠ b ∧ hb ≠ g := by omega
  have hb6 := hb5.upd u6 (by omega)
  have off : ∀ {o : Sl} {e z B : Nat} {xs : List Value}, Own y2 B e z o xs → w.heap.size ≤ B → o.off fun k => k = b ∨ k = g := fun ho hB q hq hs => by
    have := (ho.base q hq).1; omega
  have o6 := o5.upd u6 (off o5 (by omega))
  have r6 := l5.r.upd u6 (off l5.r (Nat.le_refl _))
  have h6 := l5.h.upd u6 (off l5.h (Nat.le_refl _))
  have c6 := l5.c.upd u6 (off l5.c (Nat.le_refl _))
  have cs6 : ∀ (k : Nat) (o : Lo) (c : Sl), os[k]? = some o → cl[k]? = some c → Own y3 w.heap.size 22 1 c (uv o.2) := fun k o c ho hc => (l5.cs k o c ho hc).upd u6 (off (l5.cs k o c ho hc) (Nat.le_refl _))
  have uu : Upd (fun k => k = b ∨ k = g) w y3 := l5.u.trans u6 fun i hi hn => ⟨hn, hn⟩
  have ej : IntKind.i64.wrap ((j : Int) + 1) = ((j + 1 : Nat) : Int) := by rw [wrap_i64 (by omega) (by omega)]; omega
  have el : IntKind.i64.wrap ((mkT os t).1.l + 2) = (mkT os t).1.l + 2 := wrap_i64 (by omega) (by omega)
  have eleft : (((laidA N os).n - ((laidA N os).use.e - (laidA N os).use.f) : Nat) : Int) = ((N - (encs os).length : Nat) : Int) := rfl
  rw [ej, eleft]
  by_cases hfull : N - (encs os).length < (mkT os t).2.length + 2
  · rw [if_pos hfull] at a6 ⊢
    have hlay : layT N os t = os := if_pos hfull
    refine ⟨_, _, rfl, fun w' => w' = y3, ⟨_, rfl, _, hb6.cell 2, ?_⟩, ?_⟩
    · rw [el]
      have hd : decide ((mkT os t).1.l + 2 ≤ ((N - (encs os).length : Nat) : Int)) = false := decide_eq_false (by omega)
      rw [hd]
      exact ⟨fun _ => ⟨fun _ => ⟨fun h => absurd rfl h, fun _ => rfl⟩, fun h => absurd h (show ¬ (18 : Int) = 0 by decide)⟩, fun hne => absurd (show ((18 : Int) == 0) = false by decide) hne⟩
    · rintro _ y4 rfl
      refine ⟨fun h => absurd h (show ¬ (18 : Int) = 0 by decide), fun _ => ⟨⟨j + 1, cl, rfl, by omega, by omega, ?_⟩, by dsimp only; omega⟩⟩
      rw [hfold, hlay]
      exact ⟨a6, r6, h6, c6, l5.cn, cs6, l5.ap, uu, hbl, hgl⟩
  rw [if_neg hfull] at a6 ⊢
  have hlay : layT N os t = os ++ [mkT os t] := if_neg hfull
  refine ⟨_, _, rfl, fun w' => w' = y3, ⟨_, rfl, _, hb6.cell 2, ?_⟩, ?_⟩
  · rw [el]
    have hd : decide ((mkT os t).1.l + 2 ≤ ((N - (encs os).length : Nat) : Int)) = true := decide_eq_true (by omega)
    rw [hd]
    exact ⟨fun _ => ⟨fun h => absurd rfl h, fun _ => rfl⟩, fun hne => absurd (show ((0 : Int) == 0) = true by decide) hne⟩
  rintro _ y4 rfl
  refine ⟨fun _ y4' n4 => ?_, fun h => absurd rfl h⟩
  have zw : w.heap.size ≤ y4.heap.size := uu.size
  have zw1 : v1.heap.size ≤ y4.heap.size := by have := q2.ext.size; have := u6.size; omega
  have hcnl : cl.length = os.length := ld.cn
  have hsn0 := h6.1
  rw [hdsV_length, List.length_map] at hsn0
  have hsn2 := c6.rd.len1
  unfold slV at hsn2
  rw [List.length_map] at hsn2
  obtain ⟨s0', y5, hr5, r7, u7, hcase, hblk7⟩ := push1 r6 zw (by rw [refsOf_length]; omega) n4
  have hb7 := hblk7 _ _ _ hb6 (by decide)
  have h7 := h6.upd u7 (by rintro q hq ⟨q', hq', he⟩; exact own_ne h6 r6 (by decide) q q' hq hq' he)
  have c7 := c6.upd u7 (by rintro q hq ⟨q', hq', he⟩; exact own_ne c6 r6 (by decide) q q' hq hq' he)
  have hs0lt : ∀ q, s0.a = some q → w.heap.size ≤ q.block ∧ q.block < w1.heap.size := ld.r.base
  have rows7 : ∀ (k : Nat) (o : Lo) (c : Sl), os[k]? = some o → cl[k]? = some c → Own y5 w.heap.size 22 1 c (uv o.2) := fun k o c ho hc =>
    (cs6 k o c ho hc).upd u7 (by rintro q hq ⟨q', hq', he⟩; exact ld.ap c (List.mem_of_getElem? hc) q q' hq hq' he)
  have row7 : Own y5 v1.heap.size 22 1 c (uv (mkT os t).2) := o6.upd u7 (by rintro q hq ⟨q', hq', he⟩; have := (o6.base q hq).1; have := (hs0lt q' hq').2; omega)
  have nbg : ∀ {o : Sl} {y : World} {e z : Nat} {xs : List Value} {i : Nat}, Own y w.heap.size e z o xs → i < w.heap.size → ¬ ∃ q, o.a = some q ∧ i = q.block := by
    rintro o y e z xs i ho hi ⟨q, hq, rfl⟩
    have := (ho.base q hq).1; omega
  have a7 := a6.upd u7 (nbg r6 hgl) (nbg r6 hbl)
  have uu7 : Upd (fun k => k = b ∨ k = g) w y5 := uu.trans u7 fun i hi hn => ⟨hn, nbg r6 hi⟩
  refine ⟨s0', y5, hr5, _, rfl, _, _, _, _, rfl, ⟨hb7.cell 0, hb7.cell 1, hb7.cell 2, hb7.cell 3⟩, rfl, fun y6 n6 => ?_⟩
  have rd6 : Rd y6 4 ⟨some ⟨y5.heap.size, 0, none⟩, 1, 1⟩ (hdsV [(mkT os t).1]) := (Blk.new n6).rd (z := 4) (o := 0) (n := 1) (c := 1) (by simp)
  obtain ⟨s1', y7, hr7, _, h9, u9, _⟩ := (h7.ext n6.ext).append (t := 38) (ty := 38) tab_ok (by rfl) (by rfl) (by decide) rd6 (hdsV_ones _) (by dsimp only; omega) (by dsimp only; omega) (by have := n6.ext.size; have := uu7.size; omega)
  have r9 := (r7.ext n6.ext).upd u9 (by rintro q hq ⟨q', hq', he⟩; exact own_ne (r7.ext n6.ext) (h7.ext n6.ext) (by decide) q q' hq hq' he)
  have c9 := (c7.ext n6.ext).upd u9 (by rintro q hq ⟨q', hq', he⟩; exact own_ne (c7.ext n6.ext) (h7.ext n6.ext) (by decide) q q' hq hq' he)
  have rows9 : ∀ (k : Nat) (o : Lo) (c : Sl), os[k]? = some o → cl[k]? = some c → Own y7 w.heap.size 22 1 c (uv o.2) := fun k o c ho hc =>
    ((rows7 k o c ho hc).ext n6.ext).upd u9 (by rintro q hq ⟨q', hq', he⟩; exact own_ne ((rows7 k o c ho hc).ext n6.ext) (h7.ext n6.ext) (by decide) q q' hq hq' he)
  have row9 := (row7.ext n6.ext).upd u9 (by rintro q hq ⟨q', hq', he⟩; exact own_ne (row7.ext n6.ext) (h7.ext n6.ext) (by decide) q q' hq hq' he)
  have a9 := (a7.ext n6.ext).upd u9 (nbg h7 hgl) (nbg h7 hbl)
  have uu9 : Upd (fun k => k = b ∨ k = g) w y7 := (uu7.still' n6.ext).trans u9 fun i hi hn => ⟨hn, nbg h7 hi⟩
  refine ⟨s1', y7, hr7, fun y8 n8 => ?_⟩
  have rd8 : Rd y8 1 ⟨some ⟨y7.heap.size, 0, none⟩, 1, 1⟩ (slV [c]) := (Blk.new n8).rd (z := 1) (o := 0) (n := 1) (c := 1) (by simp)
  obtain ⟨s2', y9, hr9, _, c11, u11, _⟩ := (c9.ext n8.ext).append (t := 39) (ty := 39) tab_ok (by rfl) (by rfl) (by decide) rd8 (slV_ones _) (by dsimp only; omega) (by dsimp only; omega) (by have := n8.ext.size; have := uu9.size; omega)
  have r11 := (r9.ext n8.ext).upd u11 (by rintro q hq ⟨q', hq', he⟩; exact own_ne (r9.ext n8.ext) (c9.ext n8.ext) (by decide) q q' hq hq' he)
  have h11 := (h9.ext n8.ext).upd u11 (by rintro q hq ⟨q', hq', he⟩; exact own_ne (h9.ext n8.ext) (c9.ext n8.ext) (by decide) q q' hq hq' he)
  have rows11 : ∀ (k : Nat) (o : Lo) (c : Sl), os[k]? = some o → cl[k]? = some c → Own y9 w.heap.size 22 1 c (uv o.2) := fun k o c ho hc =>
    ((rows9 k o c ho hc).ext n8.ext).upd u11 (by rintro q hq ⟨q', hq', he⟩; exact own_ne ((rows9 k o c ho hc).ext n8.ext) (c9.ext n8.ext) (by decide) q q' hq hq' he)
  have row11 := (row9.ext n8.ext).upd u11 (by rintro q hq ⟨q', hq', he⟩; exact own_ne (row9.ext n8.ext) (c9.ext n8.ext) (by decide) q q' hq hq' he)
  have a11 := (a9.ext n8.ext).upd u11 (nbg c9 hgl) (nbg c9 hbl)
  have uu11 : Upd (fun k => k = b ∨ k = g) w y9 := (uu9.still' n8.ext).trans u11 fun i hi hn => ⟨hn, nbg c9 hi⟩
  refine ⟨s2', y9, hr9, ⟨j + 1, cl ++ [c], rfl, by omega, by omega, ?_⟩, by dsimp only; omega⟩
  rw [hfold, hlay]
  refine ⟨a11, by rw [refsOf_snoc]; exact r11, by rw [List.map_append, hdsV_append]; exact h11, by unfold slV at c11 ⊢; rw [List.map_append]; exact c11, by rw [List.length_append, List.length_append, hcnl]; rfl, ?_, ?_, uu11, hbl, hgl⟩
  · intro k o c' ho hc
    rcases Nat.lt_or_ge k os.length with hk | hk
    · rw [List.getElem?_append_left hk] at ho
      rw [List.getElem?_append_left (by omega)] at hc
      exact rows11 k o c' ho hc
    · have hk' : k = os.length := by
        have := (List.getElem?_eq_some_iff.1 ho).1
        rw [List.length_append, List.length_singleton] at this
        omega
      rw [List.getElem?_append_right hk, hk', Nat.sub_self] at ho
      rw [List.getElem?_append_right (by omega), hk', hcnl, Nat.sub_self] at hc
      injection ho with ho; injection hc with hc
      subst ho hc
      exact row11.mono (by omega)
  · intro c' hc q q' hq hq' he
    rcases List.mem_append.1 hc with hc | hc
    · obtain ⟨k, hk, rfl⟩ := List.getElem_of_mem hc
      have hb' := (ld.cs k os[k] cl[k] (List.getElem?_eq_getElem (by omega)) (List.getElem?_eq_getElem hk)).base q hq
      rcases hcase q' hq' with h | h
      · exact ld.ap _ (List.getElem_mem hk) q q' hq h he
      · have := zw1; omega
    · rw [List.mem_singleton.1 hc] at hq
      have hb' := o6.base q hq
      rcases hcase q' hq' with h | h
      · have := (hs0lt q' h).2; omega
      · omega
end Go.Proofs.Ytcmmdaginkhomaa.V
