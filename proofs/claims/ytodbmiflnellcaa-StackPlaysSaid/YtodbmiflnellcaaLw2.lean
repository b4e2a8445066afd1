/-
  The laws of the stack: told, shown.
-/
import Derived.Test.YtodbmiflnellcaaLw1
import Derived.Test.YtodbmiflnellcaaOwn2
namespace Go.Proofs.Ytodbmiflnellcaa.V
open Go Go.RowKit
set_option linter.unusedVariables false
set_option linter.unusedSimpArgs false

theorem TF.upd {w w' : World} {F S : Nat → Prop} {f : Fr} {a b : Sl} (h : TF w F f a b) (u : Upd S w w') (h1 : a.off S) (h2 : b.off S) : TF w' F f a b :=
  ⟨h.ls.upd u h1, h.ops.upd u h2, h.oa, h.ob, h.small⟩
theorem trow_ones (t : Tr) : ∀ v ∈ trow t, one v := by
  intro v hv
  simp [trow] at hv
  rcases hv with rfl | rfl | rfl | rfl <;> trivial

/-- a stack that the call has made -/
structure Live (w0 w : World) (g : Nat) (F : Nat → Prop) (words : Nat) (L : List Fr) : Prop where
  ext : Ext w0 w
  stk : Stk w g F words L
  new : ∀ k, F k → w0.heap.size ≤ k
theorem Live.step {w0 w w' : World} {g : Nat} {F F' : Nat → Prop} {words : Nat} {L L' : List Fr} (h : Live w0 w g F words L) (u : Upd F w w') (s : Stk w' g F' words L') (hF : ∀ k, F' k → F k ∨ w.heap.size ≤ k) : Live w0 w' g F' words L' :=
  ⟨h.ext.fresh u h.new, s, fun k hk => by
    have := h.ext.size
    rcases hF k hk with h' | h'
    · exact h.new k h'
    · omega⟩
theorem Live.stay {w0 w w' : World} {g : Nat} {F : Nat → Prop} {words : Nat} {L L' : List Fr} (h : Live w0 w g F words L) (u : Upd F w w') (s : Stk w' g F words L') : Live w0 w' g F words L' :=
  h.step u s fun _ => .inl
theorem Live.qt {w0 w w' : World} {g : Nat} {F : Nat → Prop} {words : Nat} {L : List Fr} (h : Live w0 w g F words L) (x : Ext w w') : Live w0 w' g F words L := ⟨h.ext.trans x, h.stk.ext x, h.new⟩

theorem told_spec {w : World} {g : Nat} {F : Nat → Prop} {words : Nat} {L : List Fr} (h : Stk w g F words L) :
    Calls Try.prog 9 #[.pointer (some ⟨g, 0, none⟩)] w fun e w' => ∃ s T, e = .returned (.slice s.a s.n s.c) ∧ T.map (·.1) = L ∧ TL w' 0 F s T ∧ Ext w w' := by
  refine vc_9 _ _ _ ?_
  have hlen : L.length ≤ 65536 := by
    obtain ⟨gr, fs, cs, h, _⟩ := h
    have := StkAt.snoc_len L
    have := h.fit
    have := h.big
    omega
  have hlt := h.lt
  simp only [eq_self, true_and, and_true, decide_eq_true_eq, decide_eq_false_iff_not, gd_st, gd_sf, exists_eq_left', exists_eq_left, Option.some.injEq, Sl.eta, Nat.reduceLeDiff, Int.reduceLE, Int.reduceLT, Int.reduceEq, Int.reduceNe, Nat.reduceMul, Nat.reduceAdd, Nat.reduceSub, Int.toNat_natCast, beq_iff_eq, bne_iff_ne, beq_eq_false_iff_ne, bne_eq_false_iff_eq, pick_and, pick_or, Bool.and_eq_true, Bool.or_eq_true, Bool.and_eq_false_iff, Bool.or_eq_false_iff, ne_eq, not_false_eq_true, Bool.not_eq_true', Bool.not_eq_false', reduceCtorEq, Nat.le_refl, Nat.zero_mul, Nat.mul_one, Nat.zero_add, Int.reduceToNat, ones, one, add_mk, Decidable.not_not, cond_true, cond_false, true_implies, false_implies, implies_true, Bool.not_true, Bool.not_false]
  refine ⟨fun s n w' => 0 ≤ n ∧ n ≤ L.length ∧ Ext w w' ∧ ∃ T, T.map (·.1) = L.take n.toNat ∧ TL w' w.heap.size F s T, fun _ n _ => (L.length - n).toNat,
    ⟨by omega, by omega, Ext.refl _, [], by simp, ⟨Own.nil .., fun p hp => (by cases hp), fun t ht => (by cases ht)⟩⟩, ?_⟩
  rintro _ s n w1 ⟨n0, n1, x1, T, hT, tl⟩
  refine ⟨(depth_spec (h.ext x1)).mono ?_⟩
  rintro e w2 ⟨rfl, q2⟩
  have x2 : Ext w w2 := x1.trans q2.ext
  refine ⟨_, rfl, fun hn => ⟨(frameT_spec n (h.ext x2)).mono ?_⟩, fun hn => ?_⟩
  · rintro e w3 ⟨x23, ⟨hbad, _⟩ | ⟨A, f, C, a, b, rfl, rfl, hok, rfl, td⟩⟩
    · omega
    refine ⟨_, _, a, b, true, rfl, fun w4 n4 => ⟨rfl, (Blk.new n4).canSetN 0 4 (by simp), fun w5 hs => ⟨fun h => (by cases h), fun _ => ?_⟩⟩⟩
    have hb5 := hs.blk (Blk.new n4)
    simp only [setsL, List.set_cons_zero, List.set_cons_succ] at hb5
    simp only [hb5.cell, List.getElem?_cons_zero, List.getElem?_cons_succ, ex_sl, Value.int.injEq, Value.bool.injEq, Value.pointer.injEq, Value.string.injEq, eq_self, true_and, and_true, decide_eq_true_eq, decide_eq_false_iff_not, gd_st, gd_sf, exists_eq_left', exists_eq_left, Option.some.injEq, Sl.eta, Nat.reduceLeDiff, Int.reduceLE, Int.reduceLT, Int.reduceEq, Int.reduceNe, Nat.reduceMul, Nat.reduceAdd, Nat.reduceSub, Int.toNat_natCast, beq_iff_eq, bne_iff_ne, beq_eq_false_iff_ne, bne_eq_false_iff_eq, pick_and, pick_or, Bool.and_eq_true, Bool.or_eq_true, Bool.and_eq_false_iff, Bool.or_eq_false_iff, ne_eq, not_false_eq_true, Bool.not_eq_true', Bool.not_eq_false', reduceCtorEq, Nat.le_refl, Nat.zero_mul, Nat.mul_one, Nat.zero_add, Int.reduceToNat, ones, one, add_mk, Decidable.not_not, cond_true, cond_false, true_implies, false_implies, implies_true, Bool.not_true, Bool.not_false]
    refine ⟨(f.fn : Nat), (f.at_ : Nat), a, b, rfl, ⟨rfl, rfl, rfl, rfl⟩, rfl, fun w6 n6 => ?_⟩
    have x35 : Ext w3 w5 := n4.ext.fresh hs.upd (by rintro i rfl; exact Nat.le_refl _)
    have x36 : Ext w3 w6 := x35.trans n6.ext
    have x26 : Ext w2 w6 := x23.trans x36
    have x06 : Ext w w6 := x2.trans x26
    have tl6 : TL w6 w.heap.size F s T := (tl.ext q2.ext).ext x26
    have hx6 : Rd w6 4 ⟨some ⟨w5.heap.size, 0, none⟩, 1, 1⟩ (trow (f, a, b)) := (Blk.new n6).rd (by simp)
    have hsl := tl6.len
    have hTl : T.length = A.length := by
      have := congrArg List.length hT
      simp at this
      omega
    obtain ⟨r, w7, hr7, hrn, ho7, hu7, hfr7⟩ := tl6.row.append (t := 31) (ty := 31) tab_ok rfl rfl (by decide) hx6 (trow_ones _) (by simp only; omega) (by simp only; omega) x06.size
    have x07 : Ext w w7 := x06.fresh hu7 (by rintro i ⟨p, hp, rfl⟩; exact (tl6.row.base p hp).1)
    have tf6 : TF w6 F f a b := by
      have e1 := x2.size
      refine ⟨(td.ls.ext x36).mono (Nat.zero_le _), (td.ops.ext x36).mono (Nat.zero_le _), fun p hp hk => ?_, fun p hp hk => ?_, hok.ls, by have := hok.ops; have := hok.hi; omega⟩
      · have := hlt _ hk; have := (td.ls.base p hp).1; omega
      · have := hlt _ hk; have := (td.ops.base p hp).1; omega
    refine ⟨r, w7, hr7, ⟨?_, ?_, x07, T ++ [(f, a, b)], ?_, ⟨?_, ?_, ?_⟩⟩, ?_⟩
    · rw [wrap_i64 (by omega) (by omega)]; omega
    · rw [wrap_i64 (by omega) (by omega)]; omega
    · rw [wrap_i64 (by omega) (by omega), List.map_append, hT]
      rw [show ((A.length : Nat) : Int).toNat = A.length by omega, show (((A.length : Nat) : Int) + 1).toNat = A.length + 1 by omega, List.take_left, List.take_append]
      simp [List.take_of_length_le]
    · rw [tflat_append]
      simpa [tflat] using ho7
    · intro p hp hk
      rcases hfr7 p hp with h' | h'
      · exact tl6.off p h' hk
      · have := hlt _ hk
        have := x06.size
        omega
    · intro t ht
      have key : ∀ {t : Tr}, TF w6 F t.1 t.2.1 t.2.2 → TF w7 F t.1 t.2.1 t.2.2 := fun tf => tf.upd hu7
        (fun p hp ⟨q, hq, he⟩ => own_ne tl6.row tf.ls (by decide) q p hq hp he.symm) (fun p hp ⟨q, hq, he⟩ => own_ne tl6.row tf.ops (by decide) q p hq hp he.symm)
      rcases List.mem_append.1 ht with ht | ht
      · exact key (tl6.fr t ht)
      · simp at ht
        subst ht
        exact key (t := (f, a, b)) tf6
    · rw [wrap_i64 (by omega) (by omega)]
      omega
  · refine ⟨s, T, rfl, ?_, (tl.ext q2.ext).mono (Nat.zero_le _), x2⟩
    rw [hT, List.take_of_length_le (by omega)]

theorem shown_spec (w : World) : Calls Try.prog 6 #[] w fun e w' => e = .returned (.bool true) ∧ Ext w w' := by
  refine vc_6 _ _ ?_
  simp only [eq_self, true_and, and_true, decide_eq_true_eq, decide_eq_false_iff_not, gd_st, gd_sf, exists_eq_left', exists_eq_left, Option.some.injEq, Sl.eta, Nat.reduceLeDiff, Int.reduceLE, Int.reduceLT, Int.reduceEq, Int.reduceNe, Nat.reduceMul, Nat.reduceAdd, Nat.reduceSub, Int.toNat_natCast, beq_iff_eq, bne_iff_ne, beq_eq_false_iff_ne, bne_eq_false_iff_eq, pick_and, pick_or, Bool.and_eq_true, Bool.or_eq_true, Bool.and_eq_false_iff, Bool.or_eq_false_iff, ne_eq, not_false_eq_true, Bool.not_eq_true', Bool.not_eq_false', reduceCtorEq, Nat.le_refl, Nat.zero_mul, Nat.mul_one, Nat.zero_add, Int.reduceToNat, ones, one, add_mk, Decidable.not_not, cond_true, cond_false, true_implies, false_implies, implies_true, Bool.not_true, Bool.not_false]
  refine ⟨(new_spec 12 w).mono ?_⟩
  rintro e w1 ⟨x1, ⟨_, _, g, F1, rfl, h1, hF⟩ | ⟨hbad, _⟩⟩
  rotate_left
  · omega
  have l1 : Live w w1 g F1 12 [] := ⟨x1, h1, hF⟩
  refine ⟨_, _, rfl, fun _ => ⟨fun h => absurd rfl h, fun _ => ⟨(enter_spec 7 2 1 l1.stk).mono ?_⟩⟩, fun h => by cases h⟩
  rintro e w2 ⟨rfl, u2, F2, h2, hF2⟩
  have l2 : Live w w2 g F2 12 [⟨7, 0, 1, [0, 0], []⟩] := l1.step u2 h2 hF2
  refine ⟨_, rfl, ⟨(push_spec 5 l2.stk).mono ?_⟩⟩
  rintro e w3 ⟨rfl, h3, u3⟩
  have l3 : Live w w3 g F2 12 [⟨7, 0, 1, [0, 0], [5]⟩] := l2.stay u3 h3
  refine ⟨_, rfl, ⟨(push_spec 6 l3.stk).mono ?_⟩⟩
  rintro e w4 ⟨rfl, h4, u4⟩
  have l4 : Live w w4 g F2 12 [⟨7, 0, 1, [0, 0], [5]⟩] := l3.stay u4 h4
  refine ⟨_, rfl, ⟨(set_spec 1 9 l4.stk).mono ?_⟩⟩
  rintro e w5 ⟨rfl, h5, u5⟩
  have l5 : Live w w5 g F2 12 [⟨7, 0, 1, [0, 9], [5]⟩] := l4.stay u5 h5
  refine ⟨_, rfl, ⟨(goto_spec 3 l5.stk).mono ?_⟩⟩
  rintro e w6 ⟨rfl, h6, u6⟩
  have l6 : Live w w6 g F2 12 [⟨7, 3, 1, [0, 9], [5]⟩] := l5.stay u6 h6
  refine ⟨_, rfl, ⟨(enter_spec 8 0 4 l6.stk).mono ?_⟩⟩
  rintro e w7 ⟨rfl, u7, F7, h7, hF7⟩
  have l7 : Live w w7 g F7 12 [⟨7, 3, 1, [0, 9], [5]⟩] := l6.step u7 h7 hF7
  refine ⟨_, rfl, ⟨(enter_spec 8 0 3 l7.stk).mono ?_⟩⟩
  rintro e w8 ⟨rfl, u8, F8, h8, hF8⟩
  have l8 : Live w w8 g F8 12 [⟨7, 3, 1, [0, 9], [5]⟩, ⟨8, 0, 3, [], []⟩] := l7.step u8 h8 hF8
  refine ⟨_, rfl, ⟨(frameT_spec 0 l8.stk).mono ?_⟩⟩
  rintro e w9 ⟨x9, ⟨hbad, _⟩ | ⟨A, f, C, a, b, hL, h0, hok, rfl, td⟩⟩
  · simp at hbad
  obtain rfl : A = [] := List.eq_nil_of_length_eq_zero (by omega)
  injection hL with hf hC
  subst hf
  have l9 := l8.qt x9
  refine ⟨_, _, a, b, true, rfl, fun w10 n10 => ⟨rfl, (Blk.new n10).canSetN 0 4 (by simp), fun w11 hs => ⟨(slot_spec 0 2 ((l9.qt (n10.ext.fresh hs.upd (by rintro i rfl; exact Nat.le_refl _))).stk)).mono ?_⟩⟩⟩
  have hb11 := hs.blk (Blk.new n10)
  simp only [setsL, List.set_cons_zero, List.set_cons_succ] at hb11
  have x911 : Ext w9 w11 := n10.ext.fresh hs.upd (by rintro i rfl; exact Nat.le_refl _)
  have l11 := l9.qt x911
  rintro e w12 ⟨rfl, x12⟩
  have l12 := l11.qt x12
  refine ⟨_, _, rfl, fun _ => ⟨fun _ => ⟨fun _ => ⟨fun _ => ⟨fun _ => ⟨fun _ => ⟨(used_spec l12.stk).mono ?_⟩, fun h => absurd rfl h⟩, fun h => absurd rfl h⟩, fun h => absurd rfl h⟩, fun h => absurd rfl h⟩, fun h => absurd rfl h⟩, fun h => absurd rfl h⟩
  rintro e w13 ⟨rfl, q13⟩
  have l13 := l12.qt q13.ext
  refine ⟨_, rfl, fun _ => ⟨(func_spec l13.stk).mono ?_⟩, fun h => absurd rfl h⟩
  rintro e w14 ⟨rfl, q14⟩
  have l14 := l13.qt q14.ext
  have x1114 : Ext w11 w14 := x12.trans (q13.ext.trans q14.ext)
  have hb14 := hb11.ext x1114
  have hls := td.ls.rd.ext (x911.trans x1114)
  have hln := hls.lenu
  simp at hln
  refine ⟨_, rfl, fun _ => ⟨fun _ => ?_, fun h => by cases h⟩, fun h => absurd rfl h⟩
  simp only [hb14.cell, List.getElem?_cons_zero, List.getElem?_cons_succ, ex_sl, Value.int.injEq, Value.bool.injEq, Value.pointer.injEq, Value.string.injEq, eq_self, true_and, and_true, decide_eq_true_eq, decide_eq_false_iff_not, gd_st, gd_sf, exists_eq_left', exists_eq_left, Option.some.injEq, Sl.eta, Nat.reduceLeDiff, Int.reduceLE, Int.reduceLT, Int.reduceEq, Int.reduceNe, Nat.reduceMul, Nat.reduceAdd, Nat.reduceSub, Int.toNat_natCast, beq_iff_eq, bne_iff_ne, beq_eq_false_iff_ne, bne_eq_false_iff_eq, pick_and, pick_or, Bool.and_eq_true, Bool.or_eq_true, Bool.and_eq_false_iff, Bool.or_eq_false_iff, ne_eq, not_false_eq_true, Bool.not_eq_true', Bool.not_eq_false', reduceCtorEq, Nat.le_refl, Nat.zero_mul, Nat.mul_one, Nat.zero_add, Int.reduceToNat, ones, one, add_mk, Decidable.not_not, cond_true, cond_false, true_implies, false_implies, implies_true, Bool.not_true, Bool.not_false]
  refine ⟨fun _ => ⟨fun _ => ⟨fun _ => ⟨by omega, ?_⟩, fun h => by omega⟩, fun h => absurd rfl h⟩, fun h => absurd rfl h⟩
  obtain ⟨p, x, hp, hx, hc⟩ := hls.word 1 (by omega)
  rw [Nat.mul_one] at hc
  simp at hx
  subst hx
  exact ⟨p, hp, _, hc, fun _ => ⟨fun _ => ⟨rfl, l14.ext⟩, fun h => absurd rfl h⟩, fun h => absurd rfl h⟩
end Go.Proofs.Ytodbmiflnellcaa.V
