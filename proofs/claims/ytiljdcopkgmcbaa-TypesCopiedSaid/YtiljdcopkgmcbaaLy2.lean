/-
  The laws of types: lists lent, written over by their owner.
-/
import Derived.Test.YtiljdcopkgmcbaaLy1
namespace Go.Proofs.Ytiljdcopkgmcbaa.V
open Go Go.RowKit
set_option linter.unusedVariables false
set_option linter.unusedSimpArgs false
set_option maxRecDepth 100000

/-- types whose parts are rows of their own, with two numbers behind each; from the i-th on as they were lent -/
structure Lent (w : World) (B : Nat) (s : Sl) (T : List Tp) (i : Nat) : Prop where
  row : ∃ X : List Value, Own w B 41 3 s X ∧ X.length = T.length * 3 ∧ ∀ j, i * 3 ≤ j → X[j]? = (tyFlat T)[j]?
  parts : ∀ (j : Nat) (t : Tp), i ≤ j → T[j]? = some t → Own w B 3 1 ⟨t.2.a, t.1.parts.length + 2, t.1.parts.length + 2⟩ (iv (t.1.parts ++ [-77, -78])) ∧ t.2.n = t.1.parts.length ∧ t.2.c = t.1.parts.length + 2
  apart : (T.map (·.2)).Pairwise Apart
section
variable {w w' : World} {B i : Nat} {s : Sl} {T : List Tp} {t : Tp} {S : Nat → Prop}
theorem Lent.len (h : Lent w B s T i) : s.n = T.length := by
  obtain ⟨X, ho, hl, _⟩ := h.row
  have := ho.len
  omega
theorem Lent.upd (h : Lent w B s T i) (u : Upd S w w') (hS : ∀ k, S k → k < B ∨ w.heap.size ≤ k) : Lent w' B s T i := by
  obtain ⟨X, ho, hl, hx⟩ := h.row
  exact ⟨⟨X, ho.upd u (own_off ho hS), hl, hx⟩, fun j t hj ht => ⟨(h.parts j t hj ht).1.upd u (own_off (h.parts j t hj ht).1 hS), (h.parts j t hj ht).2⟩, h.apart⟩
theorem Lent.ext (h : Lent w B s T i) (u : Ext w w') : Lent w' B s T i := h.upd u fun _ => False.elim
theorem Lent.cell (h : Lent w B s T i) {j : Nat} (hj : i ≤ j) (ht : T[j]? = some t) : ∃ p, s.a = some p ∧ ∀ (k : Nat) (v : Value), (tyRow t)[k]? = some v → w.cell? ((p.add (j * 3)).add k) = some v := by
  obtain ⟨X, ho, hl, hx⟩ := h.row
  have hjl := (List.getElem?_eq_some_iff.1 ht).1
  have hn := ho.len
  obtain ⟨p, hp, hc⟩ := ho.rd.2 (by omega)
  refine ⟨p, hp, fun k v hv => ?_⟩
  have hk : k < 3 := (List.getElem?_eq_some_iff.1 hv).1
  rw [add_add]
  exact hc _ _ (by rw [hx _ (by omega), tyFlat_get T j k t ht hk]; exact hv)
theorem Lent.tys (h : Lent w B s T 0) : Tys w s T := by
  obtain ⟨X, ho, hl, hx⟩ := h.row
  have hX : X = tyFlat T := by
    apply List.ext_getElem?
    intro j
    exact hx j (by omega)
  rw [hX] at ho
  refine ⟨ho.rd, fun t ht => ?_⟩
  obtain ⟨j, hj, rfl⟩ := List.getElem_of_mem ht
  obtain ⟨h1, h2, h3⟩ := h.parts j _ (Nat.zero_le _) (List.getElem?_eq_getElem hj)
  have := (h1.rd.take (k := T[j].1.parts.length) (c := T[j].2.c) (by dsimp only; omega))
  rw [show (iv (T[j].1.parts ++ [-77, -78])).take T[j].1.parts.length = iv T[j].1.parts by simp [iv]] at this
  rw [← h2] at this
  exact this
end
theorem lent_spec {w : World} {s : Sl} {T : List Tp} (h : Tys w s T) (ha : ArgT T) (hm : s.n ≤ 4000000000000) :
    Calls Try.prog 12 #[.slice s.a s.n s.c] w fun e w' => ∃ (r : Sl) (T' : List Tp), e = .returned (.slice r.a r.n r.c) ∧ Lent w' w.heap.size r T' 0 ∧ T'.map (·.1) = (T.map (·.1)).take 300 ∧ Ext w w' := by
  refine vc_12 _ _ _ ?_
  have hl := h.len
  have hL : (T.map (·.1)).length = T.length := List.length_map ..
  rw [show IntKind.i64.wrap ((s.n : Int) + 2) = ((s.n + 2 : Nat) : Int) by rw [wrap_i64 (by omega) (by omega)]; omega]
  simp only [eq_self, false_or, or_false, true_and, and_true, decide_eq_true_eq, decide_eq_false_iff_not, gd_st, gd_sf, exists_eq_left', exists_eq_left, Option.some.injEq, Sl.eta, Nat.reduceLeDiff, Int.reduceLE, Int.reduceLT, Int.reduceEq, Int.reduceNe, Nat.reduceMul, Nat.reduceAdd, Nat.reduceSub, Int.toNat_natCast, beq_iff_eq, bne_iff_ne, beq_eq_false_iff_ne, bne_eq_false_iff_eq, pick_and, pick_or, Bool.and_eq_true, Bool.or_eq_true, Bool.and_eq_false_iff, Bool.or_eq_false_iff, ne_eq, not_false_eq_true, Bool.not_eq_true', Bool.not_eq_false', reduceCtorEq, Nat.le_refl, Nat.zero_mul, Nat.mul_one, Nat.zero_add, Int.reduceToNat, ones, one, add_mk, Decidable.not_not, cond_true, cond_false, true_implies, false_implies, implies_true, Bool.not_true, Bool.not_false]
  refine ⟨by omega, ?_⟩
  intro w1 n1
  have x1 := n1.ext
  have k1 := Blk.new n1
  have o1 : Own w1 w.heap.size 41 3 ⟨some ⟨w.heap.size, 0, none⟩, 0, s.n + 2⟩ [] := by
    have := Own.of_blk (s := ⟨some ⟨w.heap.size, 0, none⟩, 0, s.n + 2⟩) (z := 3) k1 (Nat.le_refl _) rfl (Nat.zero_le _) (by unfold maxLen; simp; omega) (by rw [zrow_len]; rfl)
    simpa using this
  refine ⟨fun r n w' => ∃ T' : List Tp, 0 ≤ n ∧ n ≤ T.length ∧ n ≤ 300 ∧ Lent w' w.heap.size r T' 0 ∧ T'.map (·.1) = (T.map (·.1)).take n.toNat ∧ Ext w w' ∧ ∀ t ∈ T', ∀ p, t.2.a = some p → p.block < w'.heap.size, fun _ n _ => (T.length - n).toNat,
    ⟨[], by omega, by omega, by omega, ⟨⟨[], o1, rfl, fun j _ => rfl⟩, fun j t _ ht => by simp at ht, .nil⟩, rfl, x1, fun t ht => by cases ht⟩, ?_⟩
  rintro _ r n w2 ⟨T', m0, m1, m3, l2, hT', x2, hlt2⟩
  have hT'l : T'.length = n.toNat := by
    have := congrArg List.length hT'
    simp at this
    omega
  refine ⟨fun hlt => ⟨fun h300 => ?_, fun h300 => ⟨r, T', rfl, l2, ?_, x2⟩⟩, fun hge => ⟨r, T', rfl, l2, ?_, x2⟩⟩
  rotate_left
  · rw [hT', show n.toNat = 300 by omega]
  · rw [hT', List.take_of_length_le (by omega), List.take_of_length_le (by omega)]
  obtain ⟨i, rfl⟩ : ∃ i : Nat, n = i := ⟨n.toNat, by omega⟩
  rw [Int.toNat_natCast] at hT' hT'l
  obtain ⟨t, ht, htm, hmm⟩ := getM (T := T) (i := i) (by omega)
  have h2 := h.ext x2
  obtain ⟨p, hp, hc⟩ := h2.cell ht
  have c0 := hc 0 _ rfl; have c1 := hc 1 _ rfl; have c2 := hc 2 _ rfl
  have htl := (h2.parts t htm).leni
  have hal := ha.parts t htm
  refine ⟨m0, hlt, p, hp, t.1.kind, t.2, t.1.of, rfl, ⟨c0, c1, c2⟩, ?_⟩
  intro w3 n3
  have k3 := Blk.new n3
  refine ⟨rfl, k3.canSetN 0 3 (by simp), ?_⟩
  intro w4 s4
  have k4 := s4.blk k3
  simp only [setsL, List.set] at k4
  have x4 : Ext w2 w4 := n3.ext.fresh s4.upd (by rintro i rfl; exact Nat.le_refl _)
  have hw4 : w2.heap.size < w4.heap.size := k4.lt
  simp only [k4.cell, List.getElem?_cons_zero, List.getElem?_cons_succ, ex_sl, Value.int.injEq, Value.bool.injEq, Value.pointer.injEq, Value.string.injEq, eq_self, false_or, or_false, true_and, and_true, decide_eq_true_eq, decide_eq_false_iff_not, gd_st, gd_sf, exists_eq_left', exists_eq_left, Option.some.injEq, Sl.eta, Nat.reduceLeDiff, Int.reduceLE, Int.reduceLT, Int.reduceEq, Int.reduceNe, Nat.reduceMul, Nat.reduceAdd, Nat.reduceSub, Int.toNat_natCast, beq_iff_eq, bne_iff_ne, beq_eq_false_iff_ne, bne_eq_false_iff_eq, pick_and, pick_or, Bool.and_eq_true, Bool.or_eq_true, Bool.and_eq_false_iff, Bool.or_eq_false_iff, ne_eq, not_false_eq_true, Bool.not_eq_true', Bool.not_eq_false', reduceCtorEq, Nat.le_refl, Nat.zero_mul, Nat.mul_one, Nat.zero_add, Int.reduceToNat, ones, one, add_mk, Decidable.not_not, cond_true, cond_false, true_implies, false_implies, implies_true, Bool.not_true, Bool.not_false]
  rw [show IntKind.i64.wrap ((t.2.n : Int) + 2) = ((t.2.n + 2 : Nat) : Int) by rw [wrap_i64 (by omega) (by omega)]; omega]
  simp only [Int.toNat_natCast]
  refine ⟨by omega, ?_⟩
  intro w5 n5
  have k5 := k4.ext n5.ext
  have q5 := Blk.new n5
  rw [zrow_one] at q5
  simp only [k5.cell, List.getElem?_cons_zero, List.getElem?_cons_succ, ex_sl, Value.int.injEq, Value.bool.injEq, Value.pointer.injEq, Value.string.injEq, eq_self, false_or, or_false, true_and, and_true, decide_eq_true_eq, decide_eq_false_iff_not, gd_st, gd_sf, exists_eq_left', exists_eq_left, Option.some.injEq, Sl.eta, Nat.reduceLeDiff, Int.reduceLE, Int.reduceLT, Int.reduceEq, Int.reduceNe, Nat.reduceMul, Nat.reduceAdd, Nat.reduceSub, Int.toNat_natCast, beq_iff_eq, bne_iff_ne, beq_eq_false_iff_ne, bne_eq_false_iff_eq, pick_and, pick_or, Bool.and_eq_true, Bool.or_eq_true, Bool.and_eq_false_iff, Bool.or_eq_false_iff, ne_eq, not_false_eq_true, Bool.not_eq_true', Bool.not_eq_false', reduceCtorEq, Nat.le_refl, Nat.zero_mul, Nat.mul_one, Nat.zero_add, Int.reduceToNat, ones, one, add_mk, Decidable.not_not, cond_true, cond_false, true_implies, false_implies, implies_true, Bool.not_true, Bool.not_false]
  have rd5 := (((h2.parts t htm).ext x4).ext n5.ext)
  obtain ⟨w6, hr6, b6, u6, z6⟩ := run_copy (o := 0) (t1 := 34) (t2 := 34) (ty := 3) (dn := t.2.n + 2) (dc := t.2.n + 2) tab_ok (by rfl) (by rfl) q5 (by simp) rd5 (iv_ones _)
  have k6 := k5.upd u6 (by omega)
  refine ⟨_, w6, hr6, ?_⟩
  simp only [k6.cell, List.getElem?_cons_zero, List.getElem?_cons_succ, ex_sl, Value.int.injEq, Value.bool.injEq, Value.pointer.injEq, Value.string.injEq, eq_self, false_or, or_false, true_and, and_true, decide_eq_true_eq, decide_eq_false_iff_not, gd_st, gd_sf, exists_eq_left', exists_eq_left, Option.some.injEq, Sl.eta, Nat.reduceLeDiff, Int.reduceLE, Int.reduceLT, Int.reduceEq, Int.reduceNe, Nat.reduceMul, Nat.reduceAdd, Nat.reduceSub, Int.toNat_natCast, beq_iff_eq, bne_iff_ne, beq_eq_false_iff_ne, bne_eq_false_iff_eq, pick_and, pick_or, Bool.and_eq_true, Bool.or_eq_true, Bool.and_eq_false_iff, Bool.or_eq_false_iff, ne_eq, not_false_eq_true, Bool.not_eq_true', Bool.not_eq_false', reduceCtorEq, Nat.le_refl, Nat.zero_mul, Nat.mul_one, Nat.zero_add, Int.reduceToNat, ones, one, add_mk, Decidable.not_not, cond_true, cond_false, true_implies, false_implies, implies_true, Bool.not_true, Bool.not_false]
  rw [show min t.2.n (t.2.n + 2) = t.2.n by omega, ← htl] at b6
  have e6 : List.take 0 (List.replicate (t.1.parts.length + 2) (Value.int .i64 0)) ++ (List.take t.1.parts.length (iv t.1.parts) ++ List.drop (0 + t.1.parts.length) (List.replicate (t.1.parts.length + 2) (Value.int .i64 0))) = iv (t.1.parts ++ [0, 0]) := by
    rw [List.take_zero, List.nil_append, List.take_of_length_le (by simp), Nat.zero_add, List.drop_replicate, show t.1.parts.length + 2 - t.1.parts.length = 2 by omega, iv_append]; rfl
  rw [e6] at b6
  rw [← htl]
  refine ⟨by omega, by omega, b6.canSet _ (by simp), ?_⟩
  intro w7 s7
  have b7 := s7.blk1 b6
  have k7 := k6.upd s7.upd (by dsimp only; omega)
  simp only [k7.cell, List.getElem?_cons_zero, List.getElem?_cons_succ, ex_sl, Value.int.injEq, Value.bool.injEq, Value.pointer.injEq, Value.string.injEq, eq_self, false_or, or_false, true_and, and_true, decide_eq_true_eq, decide_eq_false_iff_not, gd_st, gd_sf, exists_eq_left', exists_eq_left, Option.some.injEq, Sl.eta, Nat.reduceLeDiff, Int.reduceLE, Int.reduceLT, Int.reduceEq, Int.reduceNe, Nat.reduceMul, Nat.reduceAdd, Nat.reduceSub, Int.toNat_natCast, beq_iff_eq, bne_iff_ne, beq_eq_false_iff_ne, bne_eq_false_iff_eq, pick_and, pick_or, Bool.and_eq_true, Bool.or_eq_true, Bool.and_eq_false_iff, Bool.or_eq_false_iff, ne_eq, not_false_eq_true, Bool.not_eq_true', Bool.not_eq_false', reduceCtorEq, Nat.le_refl, Nat.zero_mul, Nat.mul_one, Nat.zero_add, Int.reduceToNat, ones, one, add_mk, Decidable.not_not, cond_true, cond_false, true_implies, false_implies, implies_true, Bool.not_true, Bool.not_false]
  rw [← htl, wrap_i64 (by omega) (by omega)]
  refine ⟨by omega, by omega, b7.canSet _ (by simp), ?_⟩
  intro w8 s8
  have b8 := s8.blk1 b7
  have k8 := k7.upd s8.upd (by dsimp only; omega)
  rw [show ((t.1.parts.length : Int) + 1).toNat = t.1.parts.length + 1 by omega] at b8
  have e8 : ((iv (t.1.parts ++ [0, 0])).set t.1.parts.length (.int .i64 (-77))).set (t.1.parts.length + 1) (.int .i64 (-78)) = iv (t.1.parts ++ [-77, -78]) := by
    rw [iv_append, iv_append, ← iv_length t.1.parts, List.set_append_right _ _ (by omega), List.set_append_right _ _ (by simp)]
    congr 1
    simp [iv]
  rw [e8] at b8
  simp only [k8.cell, List.getElem?_cons_zero, List.getElem?_cons_succ, ex_sl, Value.int.injEq, Value.bool.injEq, Value.pointer.injEq, Value.string.injEq, eq_self, false_or, or_false, true_and, and_true, decide_eq_true_eq, decide_eq_false_iff_not, gd_st, gd_sf, exists_eq_left', exists_eq_left, Option.some.injEq, Sl.eta, Nat.reduceLeDiff, Int.reduceLE, Int.reduceLT, Int.reduceEq, Int.reduceNe, Nat.reduceMul, Nat.reduceAdd, Nat.reduceSub, Int.toNat_natCast, beq_iff_eq, bne_iff_ne, beq_eq_false_iff_ne, bne_eq_false_iff_eq, pick_and, pick_or, Bool.and_eq_true, Bool.or_eq_true, Bool.and_eq_false_iff, Bool.or_eq_false_iff, ne_eq, not_false_eq_true, Bool.not_eq_true', Bool.not_eq_false', reduceCtorEq, Nat.le_refl, Nat.zero_mul, Nat.mul_one, Nat.zero_add, Int.reduceToNat, ones, one, add_mk, Decidable.not_not, cond_true, cond_false, true_implies, false_implies, implies_true, Bool.not_true, Bool.not_false]
  rw [← htl]
  refine ⟨by omega, by omega, k8.canSet 1 (by simp), ?_⟩
  intro w9 s9
  have k9 := s9.blk1 k8
  simp only [List.set, Option.map_some, Addr.add] at k9
  have b9 := b8.upd s9.upd (by dsimp only; omega)
  have x9 : Ext w2 w9 := by
    have xa : Ext w2 w5 := x4.trans n5.ext
    have xb : Ext w2 w6 := xa.fresh u6 (by rintro k rfl; exact x4.size)
    have xc : Ext w2 w7 := xb.fresh s7.upd (by rintro k rfl; exact x4.size)
    have xd : Ext w2 w8 := xc.fresh s8.upd (by rintro k rfl; exact x4.size)
    exact xd.fresh s9.upd (by rintro k rfl; exact Nat.le_refl _)
  simp only [k9.cell, List.getElem?_cons_zero, List.getElem?_cons_succ, ex_sl, Value.int.injEq, Value.bool.injEq, Value.pointer.injEq, Value.string.injEq, eq_self, false_or, or_false, true_and, and_true, decide_eq_true_eq, decide_eq_false_iff_not, gd_st, gd_sf, exists_eq_left', exists_eq_left, Option.some.injEq, Sl.eta, Nat.reduceLeDiff, Int.reduceLE, Int.reduceLT, Int.reduceEq, Int.reduceNe, Nat.reduceMul, Nat.reduceAdd, Nat.reduceSub, Int.toNat_natCast, beq_iff_eq, bne_iff_ne, beq_eq_false_iff_ne, bne_eq_false_iff_eq, pick_and, pick_or, Bool.and_eq_true, Bool.or_eq_true, Bool.and_eq_false_iff, Bool.or_eq_false_iff, ne_eq, not_false_eq_true, Bool.not_eq_true', Bool.not_eq_false', reduceCtorEq, Nat.le_refl, Nat.zero_mul, Nat.mul_one, Nat.zero_add, Int.reduceToNat, ones, one, add_mk, Decidable.not_not, cond_true, cond_false, true_implies, false_implies, implies_true, Bool.not_true, Bool.not_false]
  refine ⟨_, ⟨some ⟨w4.heap.size, 0, none⟩, t.1.parts.length, t.1.parts.length + 2⟩, _, rfl, ⟨rfl, rfl, rfl⟩, rfl, ?_⟩
  intro w10 n10
  have x10 : Ext w2 w10 := x9.trans n10.ext
  have b10 := b9.ext n10.ext
  let t' : Tp := (t.1, ⟨some ⟨w4.heap.size, 0, none⟩, t.1.parts.length, t.1.parts.length + 2⟩)
  have rd10 : Rd w10 3 ⟨some ⟨w9.heap.size, 0, none⟩, 1, 1⟩ (tyRow t') := (Blk.new n10).rd (z := 3) (o := 0) (n := 1) (c := 1) (by simp)
  obtain ⟨X, ho, hXl, hX⟩ := (l2.ext x10).row
  have hln := l2.len
  have hlc := ho.len
  have hcap := ho.cap
  obtain ⟨ra, w11, hr11, hn11, o11, u11, hb11⟩ := ho.append (t := 22) (ty := 22) tab_ok (by rfl) (by rfl) (by decide) rd10 (fun v hv => tyFlat_ones [t'] v (by simpa [tyFlat] using hv)) (by dsimp only; omega) (by dsimp only; omega) (by have := x2.size; have := x10.size; omega)
  have hw04 : w.heap.size ≤ w4.heap.size := by have := x2.size; omega
  have own10 : Own w10 w.heap.size 3 1 ⟨some ⟨w4.heap.size, 0, none⟩, t.1.parts.length + 2, t.1.parts.length + 2⟩ (iv (t.1.parts ++ [-77, -78])) := by
    have := Own.of_blk (s := ⟨some ⟨w4.heap.size, 0, none⟩, t.1.parts.length + 2, t.1.parts.length + 2⟩) (z := 1) (B := w.heap.size) b10 hw04 rfl (Nat.le_refl _) (by unfold maxLen; simp; omega) (by simp)
    rw [List.take_of_length_le (by simp)] at this
    exact this
  have keep : ∀ {z : Nat} {s' : Sl} {xs : List Value}, Own w10 w.heap.size 3 z s' xs → Own w11 w.heap.size 3 z s' xs := fun hh => hh.upd u11 fun p hp => by
    rintro ⟨q, hq, he⟩
    exact own_ne hh ho (by decide) p q hp hq he
  have x11 : Ext w w11 := by
    refine (x2.trans x10).fresh u11 fun k hk => ?_
    obtain ⟨p, hp, rfl⟩ := hk
    exact (ho.base p hp).1
  have hlt4 : w4.heap.size < w11.heap.size := by
    have := b10.lt
    have := u11.size
    omega
  refine ⟨ra, w11, hr11, ⟨T' ++ [t'], ?_, ?_, ?_, ⟨⟨X ++ tyRow t', o11, ?_, fun j _ => ?_⟩, fun j u _ hu => ?_, ?_⟩, ?_, x11, ?_⟩, ?_⟩
  · (first | (rw [wrap_i64 (by omega) (by omega)]; omega) | (dsimp only; rw [wrap_i64 (by omega) (by omega)]; omega) | (dsimp only; omega))
  · (first | (rw [wrap_i64 (by omega) (by omega)]; omega) | (dsimp only; rw [wrap_i64 (by omega) (by omega)]; omega) | (dsimp only; omega))
  · (first | (rw [wrap_i64 (by omega) (by omega)]; omega) | (dsimp only; rw [wrap_i64 (by omega) (by omega)]; omega) | (dsimp only; omega))
  · rw [List.length_append, List.length_append, hXl]; simp [tyRow]; omega
  · have hXe : X = tyFlat T' := by
      apply List.ext_getElem?
      intro j
      exact hX j (by omega)
    rw [hXe, tyFlat_append]; simp [tyFlat]
  · rw [List.getElem?_append] at hu
    split at hu
    · obtain ⟨a1, a2⟩ := (l2.ext x10).parts j u (Nat.zero_le _) hu
      exact ⟨keep a1, a2⟩
    · rename_i hj
      have : j - T'.length = 0 := by
        have := (List.getElem?_eq_some_iff.1 hu).1
        simp at this; omega
      rw [this] at hu
      simp at hu
      subst hu
      exact ⟨keep own10, rfl, rfl⟩
  · rw [List.map_append, List.pairwise_append]
    refine ⟨l2.apart, by simp, fun a ha b hb => ?_⟩
    simp only [List.map_cons, List.map_nil, List.mem_cons, List.not_mem_nil, or_false] at hb
    subst hb
    obtain ⟨u, hu, rfl⟩ := List.mem_map.1 ha
    intro p q hp hq
    have := hlt2 u hu p hp
    have hq : q = ⟨w4.heap.size, 0, none⟩ := by injection hq with hq; exact hq.symm
    subst hq
    dsimp only; omega
  · rw [wrap_i64 (by omega) (by omega), List.map_append, hT', show ((i : Int) + 1).toNat = i + 1 by omega, List.take_add_one, hmm]
    rfl
  · intro u hu p hp
    rcases List.mem_append.1 hu with hu | hu
    · have := hlt2 u hu p hp
      have := x10.size
      have := u11.size
      omega
    · simp only [List.mem_cons, List.not_mem_nil, or_false] at hu
      subst hu
      have hp : p = ⟨w4.heap.size, 0, none⟩ := by injection hp with hp; exact hp.symm
      subst hp
      exact hlt4
  · (first | (rw [wrap_i64 (by omega) (by omega)]; omega) | (dsimp only; rw [wrap_i64 (by omega) (by omega)]; omega) | (dsimp only; omega))
end Go.Proofs.Ytiljdcopkgmcbaa.V
