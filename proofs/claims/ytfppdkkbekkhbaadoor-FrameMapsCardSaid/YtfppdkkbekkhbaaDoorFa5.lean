/-
  What a caller hands in, and what it does with it afterwards.
-/
import Derived.Test.YtfppdkkbekkhbaaDoorFa4
namespace Go.Proofs.YtfppdkkbekkhbaaDoor.V
open Go Go.RowKit
set_option linter.unusedVariables false
set_option linter.unusedSimpArgs false
set_option maxRecDepth 100000

/-- a row of the caller's, with one more number of its behind it -/
structure Len (w : World) (B : Nat) (s : Sl) (xs : List Int) (v : Int) : Prop where
  o : Own w B 3 1 ⟨s.a, s.n + 1, s.c⟩ (iv (xs ++ [v]))
  n : s.n = xs.length
section
variable {w w' : World} {B : Nat} {s : Sl} {xs : List Int} {v : Int} {S : Nat → Prop}
theorem Len.rd (h : Len w B s xs v) : Rd w 1 s (iv xs) := by
  have := h.o.rd.take (k := s.n) (c := s.c) (Nat.le_succ _)
  have e : (iv (xs ++ [v])).take s.n = iv xs := by
    unfold iv
    rw [h.n, List.map_append, List.take_left' (by simp)]
  rw [e] at this
  exact this
theorem Len.ext (h : Len w B s xs v) (x : Ext w w') : Len w' B s xs v := ⟨h.o.ext x, h.n⟩
theorem Len.upd (h : Len w B s xs v) (u : Upd S w w') (hS : s.off S) : Len w' B s xs v := ⟨h.o.upd u hS, h.n⟩
theorem Len.some_ (h : Len w B s xs v) : ∃ p, s.a = some p ∧ B ≤ p.block ∧ p.block < w.heap.size := by
  obtain ⟨p, hp, _⟩ := h.o.rd.2 (by dsimp only; omega)
  exact ⟨p, hp, h.o.base p hp⟩
theorem Len.last (h : Len w B s xs v) {p : Addr} (hp : s.a = some p) : w.cell? (p.add s.n) = some (.int .i64 v) := by
  obtain ⟨q, hq, hc⟩ := h.o.rd.2 (by dsimp only; omega)
  have hq' : s.a = some q := hq
  rw [hp] at hq'; injection hq' with hq'; subst hq'
  refine hc s.n _ ?_
  unfold iv
  rw [List.getElem?_map, h.n, List.getElem?_append_right (Nat.le_refl _), Nat.sub_self]; rfl
end
/-- all places of a row written over -/
theorem own_setAll {w w' : World} {B : Nat} {s : Sl} {xs : List Value} {p : Addr} {i : Nat} {v : Value} (o : Own w B 3 1 s xs) (hp : s.a = some p) (hi : i < s.n) (h : SetW w (p.add i) [v] w') :
    Own w' B 3 1 s (xs.set i v) ∧ Upd (fun k => k = p.block) w w' := o.setAt hp (by omega) h
section
variable {w : World} {f0 f1 o0 o1 : Sl} {xs ys : List Int}
theorem lent_spec (h : Fr2 w f0 f1 xs ys) :
    Calls Tryd.prog 12 #[frV f0 f1] w fun e w' => ∃ s t : Sl, e = .returned (frV s t) ∧ Len w' w.heap.size s xs (-71) ∧ Len w' w.heap.size t ys (-72) ∧ Apart s t ∧ Ext w w' := by
  refine vc_12 _ _ _ _ ?_
  have l0 := h.a.leni; have l1 := h.b.leni
  have hm := h.m; have hk := h.k
  simp only [eq_self, false_or, or_false, true_and, and_true, decide_eq_true_eq, decide_eq_false_iff_not, gd_st, gd_sf, exists_eq_left', exists_eq_left, Option.some.injEq, Sl.eta, Nat.reduceLeDiff, Int.reduceLE, Int.reduceLT, Int.reduceEq, Int.reduceNe, Nat.reduceMul, Nat.reduceAdd, Nat.reduceSub, Int.toNat_natCast, beq_iff_eq, bne_iff_ne, beq_eq_false_iff_ne, bne_eq_false_iff_eq, pick_and, pick_or, Bool.and_eq_true, Bool.or_eq_true, Bool.and_eq_false_iff, Bool.or_eq_false_iff, ne_eq, not_false_eq_true, Bool.not_eq_true', Bool.not_eq_false', reduceCtorEq, Nat.le_refl, Nat.zero_mul, Nat.mul_one, Nat.zero_add, Int.reduceToNat, ones, one, add_mk, Decidable.not_not, cond_true, cond_false, true_implies, false_implies, implies_true, Bool.not_true, Bool.not_false]
  intro w1 n1 w2 n2 w3 n3
  have x3 := (n1.ext.trans n2.ext).trans n3.ext
  have z1 := n1.size; have z2 := n2.size; have z3 := n3.size
  have f3 : FB w3 w.heap.size f0 f1 := (Blk.new n1).ext (n2.ext.trans n3.ext)
  have g3 := (Blk.new n2).ext n3.ext
  have o3 : Own w3 w2.heap.size 3 1 ⟨some ⟨w2.heap.size, 0, none⟩, 0, 0⟩ (iv []) := Own.lit (z := 1) (n := 0) (cs := []) n3 (Nat.le_refl _) rfl (by decide)
  obtain ⟨r4, w4, hr4, hn4, o4, u4, c4⟩ := o3.append (t := 22) (ty := 22) tab_ok (by rfl) (by rfl) (by decide) (h.a.ext x3) (iv_ones _) (by dsimp only; omega) (by dsimp only; omega) (by omega)
  have fresh : ∀ {v v' : World} {s : Sl} {vs : List Value} {B : Nat}, Own v B 3 1 s vs → w.heap.size ≤ B → Ext w v → Upd (fun k => ∃ q, s.a = some q ∧ k = q.block) v v' → Ext w v' := fun o hB x u =>
    x.fresh u (by rintro i ⟨q, hq, rfl⟩; have := (o.base q hq).1; omega)
  have x4 := fresh o3 (by omega) x3 u4
  have keep : ∀ {v v' : World} {s : Sl} {vs cs : List Value} {B g T : Nat}, Own v B 3 1 s vs → Blk v g T cs → T ≠ 3 → Upd (fun k => ∃ q, s.a = some q ∧ k = q.block) v v' → Blk v' g T cs := fun o b hT u =>
    b.upd u (by rintro ⟨q, hq, he⟩; exact own_blk_ne o b (fun h => hT h.symm) q hq he.symm)
  have f4 := keep o3 f3 (by decide) u4
  have g4 := keep o3 g3 (by decide) u4
  refine ⟨f0, f3.cell 0, r4, w4, hr4, fun w5 n5 => ?_⟩
  obtain ⟨r6, w6, hr6, hn6, o6, u6, c6⟩ := push1 o4 (by have := u4.size; omega) (by omega) n5
  have x6 := fresh o4 (by omega) x4 u6
  have f6 := keep o4 f4 (by decide) u6
  have g6 := keep o4 g4 (by decide) u6
  refine ⟨r6, w6, hr6, fun w7 n7 => ⟨f1, (f6.ext n7.ext).cell 1, ?_⟩⟩
  have x7 := x6.trans n7.ext
  have z7 := n7.size
  have o7 : Own w7 w6.heap.size 3 1 ⟨some ⟨w6.heap.size, 0, none⟩, 0, 0⟩ (iv []) := Own.lit (z := 1) (n := 0) (cs := []) n7 (Nat.le_refl _) rfl (by decide)
  obtain ⟨r8, w8, hr8, hn8, o8, u8, c8⟩ := o7.append (t := 22) (ty := 22) tab_ok (by rfl) (by rfl) (by decide) (h.b.ext x7) (iv_ones _) (by dsimp only; omega) (by dsimp only; omega) (by omega)
  have z06 := x6.size
  have x8 := fresh o7 (by omega) x7 u8
  have f8 := keep o7 (f6.ext n7.ext) (by decide) u8
  have g8 := keep o7 (g6.ext n7.ext) (by decide) u8
  have ap : ∀ {v : World} {s : Sl} {vs : List Value}, Own v w6.heap.size 3 1 s vs → r6.off fun k => ∃ q, s.a = some q ∧ k = q.block := fun o q hq ⟨q', hq', he⟩ => by
    have := (o6.base q hq).2; have := (o.base q' hq').1; omega
  have o68 := (o6.ext n7.ext).upd u8 (ap o7)
  refine ⟨r8, w8, hr8, fun w9 n9 => ?_⟩
  obtain ⟨r10, w10, hr10, hn10, o10, u10, c10⟩ := push1 o8 (by have := u8.size; omega) (by omega) n9
  have x10 := fresh o8 (by omega) x8 u10
  have f10 := keep o8 f8 (by decide) u10
  have g10 := keep o8 g8 (by decide) u10
  have o610 := o68.upd u10 (ap o8)
  refine ⟨r10, w10, hr10, fun w11 q11 => ?_⟩
  have f11 := f10.ext q11.ext
  have g11 := g10.ext q11.ext
  have cap6 := o6.cap; have cap10 := o10.cap
  have e4 : r4.n = f0.n := by rw [hn4]; show 0 + f0.n = _; omega
  have e8 : r8.n = f1.n := by rw [hn8]; show 0 + f1.n = _; omega
  refine ⟨fun _ => False, f0, fun w' u => (f11.ext u).cell 0, by omega, by omega, f1, fun w' u => (f11.ext u).cell 1, by omega, by omega, by simp [len', wr], by simp [len', wr], g11.canSetN 0 2 (by simp), fun w12 s12 => ?_⟩
  rw [cut0, cut0] at s12
  have g12 : FB w12 w1.heap.size ⟨r6.a, f0.n, r6.c⟩ ⟨r10.a, f1.n, r10.c⟩ := FB.set g11 s12
  have u12 : Upd (fun i => i = w1.heap.size) w11 w12 := s12.upd
  have p6 := (o610.ext q11.ext).upd u12 (own_blk_ne (o610.ext q11.ext) g11 (by decide))
  have p10 := (o10.ext q11.ext).upd u12 (own_blk_ne (o10.ext q11.ext) g11 (by decide))
  refine ⟨⟨r6.a, f0.n, r6.c⟩, ⟨r10.a, f1.n, r10.c⟩, rfl, ⟨g12.cell 0, g12.cell 1⟩, ⟨r6.a, f0.n, r6.c⟩, ⟨r10.a, f1.n, r10.c⟩, rfl, ⟨?_, by dsimp only; omega⟩, ⟨?_, by dsimp only; omega⟩, fun p q hp hq he => ?_, (x10.trans q11.ext).fresh u12 (by rintro i rfl; omega)⟩
  · have := p6.mono (B' := w.heap.size) (by omega)
    show Own w12 w.heap.size _ 1 ⟨r6.a, f0.n + 1, r6.c⟩ _
    rw [show f0.n + 1 = r6.n by omega]; exact this
  · have := p10.mono (B' := w.heap.size) (by omega)
    show Own w12 w.heap.size _ 1 ⟨r10.a, f1.n + 1, r10.c⟩ _
    rw [show f1.n + 1 = r10.n by omega]; exact this
  · have := (o6.base p hp).2; have := (o10.base q hq).1; omega
/-- a row's places are written over, one by one -/
theorem kept_spec {B B' : Nat} (h0 : Len w B o0 xs (-71)) (h1 : Len w B' o1 ys (-72)) (hap : Apart o0 o1) (k : Fr2 w f0 f1 xs ys) :
    Calls Tryd.prog 15 #[frV o0 o1, frV f0 f1] w fun e w' => e = .returned (.bool true) ∧ Upd (fun i => ∃ q, (o0.a = some q ∨ o1.a = some q) ∧ i = q.block) w w' := by
  refine vc_15 _ _ _ _ _ _ ?_
  have l0 := k.a.leni; have l1 := k.b.leni
  have hm := k.m; have hk := k.k
  have n0 := h0.n; have n1' := h1.n
  have c0 := h0.o.cap; have c1 := h1.o.cap
  dsimp only at c0 c1
  simp only [eq_self, false_or, or_false, true_and, and_true, decide_eq_true_eq, decide_eq_false_iff_not, gd_st, gd_sf, exists_eq_left', exists_eq_left, Option.some.injEq, Sl.eta, Nat.reduceLeDiff, Int.reduceLE, Int.reduceLT, Int.reduceEq, Int.reduceNe, Nat.reduceMul, Nat.reduceAdd, Nat.reduceSub, Int.toNat_natCast, beq_iff_eq, bne_iff_ne, beq_eq_false_iff_ne, bne_eq_false_iff_eq, pick_and, pick_or, Bool.and_eq_true, Bool.or_eq_true, Bool.and_eq_false_iff, Bool.or_eq_false_iff, ne_eq, not_false_eq_true, Bool.not_eq_true', Bool.not_eq_false', reduceCtorEq, Nat.le_refl, Nat.zero_mul, Nat.mul_one, Nat.zero_add, Int.reduceToNat, ones, one, add_mk, Decidable.not_not, cond_true, cond_false, true_implies, false_implies, implies_true, Bool.not_true, Bool.not_false]
  intro w1 n1 w2 n2
  have x2 := n1.ext.trans n2.ext
  have f2 : FB w2 w.heap.size o0 o1 := (Blk.new n1).ext n2.ext
  have g2 : FB w2 w1.heap.size f0 f1 := Blk.new n2
  refine ⟨o0, o1, rfl, ⟨f2.cell 0, f2.cell 1⟩, f0, f1, rfl, ⟨g2.cell 0, g2.cell 1⟩, ⟨(rsame_spec ⟨(h0.ext x2).rd, (h1.ext x2).rd, k.m, k.k⟩ (k.ext x2)).mono ?_⟩⟩
  rintro e w3 ⟨rfl, x3⟩
  have x03 := x2.trans x3
  have f3 := f2.ext x3; have g3 := g2.ext x3
  have e0 : IntKind.i64.wrap ((f0.n : Int) + 1) = ((f0.n + 1 : Nat) : Int) := by rw [wrap_i64 (by omega) (by omega)]; omega
  have e1 : IntKind.i64.wrap ((f1.n : Int) + 1) = ((f1.n + 1 : Nat) : Int) := by rw [wrap_i64 (by omega) (by omega)]; omega
  obtain ⟨p, hp, _⟩ := h0.some_
  obtain ⟨q, hq, _⟩ := h1.some_
  refine ⟨_, rfl, o0, f3.cell 0, f0, g3.cell 0, ?_⟩
  rw [e0, Int.toNat_natCast]
  refine ⟨by omega, by omega, o1, f3.cell 1, f1, g3.cell 1, ?_⟩
  rw [e1, Int.toNat_natCast, cut0, cut0]
  refine ⟨by omega, by omega, fun _ => ⟨f0, g3.cell 0, by omega, by omega, p, hp, _, by rw [← l0, ← n0]; exact (h0.ext x03).last hp, fun _ => ⟨f1, g3.cell 1, by omega, by omega, q, hq, _, by rw [← l1, ← n1']; exact (h1.ext x03).last hq, fun hne => absurd rfl hne, fun _ => ?_⟩, fun hne => absurd rfl hne⟩, fun h => absurd (decide_eq_true (p := xs = xs ∧ ys = ys) ⟨rfl, rfl⟩) (by rw [h]; decide)⟩
  refine ⟨fun n w' => ∃ (i : Nat) (L : List Value), n = i ∧ i ≤ f0.n + 1 ∧ Own w' B 3 1 ⟨o0.a, o0.n + 1, o0.c⟩ L ∧ Own w' B' 3 1 ⟨o1.a, o1.n + 1, o1.c⟩ (iv (ys ++ [-72])) ∧ Upd (fun i => ∃ q, (o0.a = some q ∨ o1.a = some q) ∧ i = q.block) w w', fun n _ => (f0.n + 1 - n).toNat,
    ⟨0, _, rfl, Nat.zero_le _, (h0.ext x03).o, (h1.ext x03).o, x03.toS⟩, ?_⟩
  rintro _ n w4 ⟨i, L, rfl, hi, o4, r4, u4⟩
  have ei : IntKind.i64.wrap ((i : Int) + 1) = ((i + 1 : Nat) : Int) := by rw [wrap_i64 (by omega) (by omega)]; omega
  rw [ei, Int.toNat_natCast]
  refine ⟨fun hlt => ⟨by omega, hlt, p, hp, o4.canAt hp (by dsimp only; omega), fun w5 s5 => ?_⟩, fun hge => ?_⟩
  · obtain ⟨o5, u5⟩ := own_setAll o4 hp (by dsimp only; omega) s5
    exact ⟨⟨i + 1, _, rfl, by omega, o5, r4.upd u5 (fun q' hq' he => hap p q' hp hq' he.symm), u4.trans u5 fun j hj hn => ⟨hn, fun e => hn ⟨p, .inl hp, e⟩⟩⟩, by dsimp only; omega⟩
  refine ⟨fun n w' => ∃ (i : Nat) (L : List Value), n = i ∧ i ≤ f1.n + 1 ∧ Own w' B' 3 1 ⟨o1.a, o1.n + 1, o1.c⟩ L ∧ Upd (fun i => ∃ q, (o0.a = some q ∨ o1.a = some q) ∧ i = q.block) w w', fun n _ => (f1.n + 1 - n).toNat, ⟨0, _, rfl, Nat.zero_le _, r4, u4⟩, ?_⟩
  rintro _ n w5 ⟨j, M, rfl, hj, o5, u5⟩
  have ej : IntKind.i64.wrap ((j : Int) + 1) = ((j + 1 : Nat) : Int) := by rw [wrap_i64 (by omega) (by omega)]; omega
  rw [ej, Int.toNat_natCast]
  refine ⟨fun hlt => ⟨by omega, hlt, q, hq, o5.canAt hq (by dsimp only; omega), fun w6 s6 => ?_⟩, fun hge => u5⟩
  obtain ⟨o6, u6⟩ := own_setAll o5 hq (by dsimp only; omega) s6
  exact ⟨⟨j + 1, _, rfl, by omega, o6, u5.trans u6 fun j hj hn => ⟨hn, fun e => hn ⟨q, .inr hq, e⟩⟩⟩, by dsimp only; omega⟩
theorem spoil_spec {B : Nat} {a b : List Int} (h0 : Own w B 3 1 f0 (iv a)) (h1 : Own w B 3 1 f1 (iv b)) (hap : Apart f0 f1) (ha : a.length ≤ 17592186044000) (hb : b.length ≤ 17592186044000) (hB : B ≤ w.heap.size) :
    Calls Tryd.prog 17 #[frV f0 f1] w fun e w' => e = .returned (.tuple #[]) ∧ Upd (fun i => ∃ q, (f0.a = some q ∨ f1.a = some q) ∧ i = q.block) w w' := by
  refine vc_17 _ _ _ _ ?_
  have l0 := h0.rd.leni; have l1 := h1.rd.leni
  simp only [eq_self, false_or, or_false, true_and, and_true, decide_eq_true_eq, decide_eq_false_iff_not, gd_st, gd_sf, exists_eq_left', exists_eq_left, Option.some.injEq, Sl.eta, Nat.reduceLeDiff, Int.reduceLE, Int.reduceLT, Int.reduceEq, Int.reduceNe, Nat.reduceMul, Nat.reduceAdd, Nat.reduceSub, Int.toNat_natCast, beq_iff_eq, bne_iff_ne, beq_eq_false_iff_ne, bne_eq_false_iff_eq, pick_and, pick_or, Bool.and_eq_true, Bool.or_eq_true, Bool.and_eq_false_iff, Bool.or_eq_false_iff, ne_eq, not_false_eq_true, Bool.not_eq_true', Bool.not_eq_false', reduceCtorEq, Nat.le_refl, Nat.zero_mul, Nat.mul_one, Nat.zero_add, Int.reduceToNat, ones, one, add_mk, Decidable.not_not, cond_true, cond_false, true_implies, false_implies, implies_true, Bool.not_true, Bool.not_false]
  intro w1 n1
  have z1 := n1.size
  have g1 : FB w1 w.heap.size f0 f1 := Blk.new n1
  refine ⟨f0, g1.cell 0, fun w2 n2 => ?_⟩
  obtain ⟨r, w3, hr3, hn3, o3, u3, c3⟩ := push1 (h0.ext n1.ext) (by omega) ha n2
  have g3 := g1.upd u3 (by rintro ⟨q, hq, he⟩; exact own_blk_ne (h0.ext n1.ext) g1 (by decide) q hq he.symm)
  have h13 := (h1.ext n1.ext).upd u3 (fun q hq ⟨q', hq', he⟩ => hap q' q hq' hq he.symm)
  have z3 := u3.size
  refine ⟨r, w3, hr3, f1, g3.cell 1, fun w4 n4 => ?_⟩
  obtain ⟨t, w5, hr5, hn5, o5, u5, c5⟩ := push1 h13 (by omega) hb n4
  have old0 : ∀ q, f0.a = some q → q.block < w.heap.size := fun q hq => (h0.base q hq).2
  have old1 : ∀ q, f1.a = some q → q.block < w.heap.size := fun q hq => (h1.base q hq).2
  have rt : Apart r t := by
    intro q q' hq hq' he
    have b3 := (o3.base q hq).2
    rcases c5 q' hq' with h | h
    · rcases c3 q hq with h' | h'
      · exact hap q q' h' h he
      · have := old1 q' h; omega
    · omega
  have o35 := o3.upd u5 (fun q hq ⟨q', hq', he⟩ => by
    rcases c3 q hq with h' | h'
    · exact hap q q' h' hq' he
    · have := old1 q' hq'; omega)
  have U5 : Upd (fun i => ∃ q, (f0.a = some q ∨ f1.a = some q) ∧ i = q.block) w w5 := ((n1.ext.toS.trans u3 fun i hi hn => ⟨hn, fun ⟨q, hq, e⟩ => hn ⟨q, .inl hq, e⟩⟩).trans u5 fun i hi hn => ⟨hn, fun ⟨q, hq, e⟩ => hn ⟨q, .inr hq, e⟩⟩)
  obtain ⟨p, hp, _⟩ := o35.rd.2 (by omega)
  obtain ⟨q, hq, _⟩ := o5.rd.2 (by omega)
  have upR : ∀ {v v' : World}, Upd (fun i => ∃ q, (f0.a = some q ∨ f1.a = some q) ∧ i = q.block) w v → Upd (fun i => i = p.block) v v' → Upd (fun i => ∃ q, (f0.a = some q ∨ f1.a = some q) ∧ i = q.block) w v' := fun u u' =>
    u.trans u' fun i hi hn => ⟨hn, fun e => by
      rcases c3 p hp with h | h
      · exact hn ⟨p, .inl h, e⟩
      · omega⟩
  have upT : ∀ {v v' : World}, Upd (fun i => ∃ q, (f0.a = some q ∨ f1.a = some q) ∧ i = q.block) w v → Upd (fun i => i = q.block) v v' → Upd (fun i => ∃ q, (f0.a = some q ∨ f1.a = some q) ∧ i = q.block) w v' := fun u u' =>
    u.trans u' fun i hi hn => ⟨hn, fun e => by
      rcases c5 q hq with h | h
      · exact hn ⟨q, .inr h, e⟩
      · omega⟩
  refine ⟨t, w5, hr5, fun n w' => ∃ (i : Nat) (L : List Value), n = i ∧ i ≤ r.n ∧ Own w' B 3 1 r L ∧ Own w' B 3 1 t (iv (b ++ [-75])) ∧ Upd (fun i => ∃ q, (f0.a = some q ∨ f1.a = some q) ∧ i = q.block) w w', fun n _ => (r.n - n).toNat, ⟨0, _, rfl, Nat.zero_le _, o35, o5, U5⟩, ?_⟩
  rintro _ n w6 ⟨i, L, rfl, hi, o6, t6, U6⟩
  have ei : IntKind.i64.wrap ((i : Int) + 1) = ((i + 1 : Nat) : Int) := by rw [wrap_i64 (by omega) (by omega)]; omega
  rw [ei, Int.toNat_natCast]
  refine ⟨fun hlt => ⟨by omega, hlt, p, hp, o6.canAt hp (by omega), fun w7 s7 => ?_⟩, fun hge => ?_⟩
  · obtain ⟨o7, u7⟩ := own_setAll o6 hp (by omega) s7
    exact ⟨⟨i + 1, _, rfl, by omega, o7, t6.upd u7 (fun q' hq' he => rt p q' hp hq' he.symm), upR U6 u7⟩, by dsimp only; omega⟩
  refine ⟨fun n w' => ∃ (i : Nat) (L : List Value), n = i ∧ i ≤ t.n ∧ Own w' B 3 1 t L ∧ Upd (fun i => ∃ q, (f0.a = some q ∨ f1.a = some q) ∧ i = q.block) w w', fun n _ => (t.n - n).toNat, ⟨0, _, rfl, Nat.zero_le _, t6, U6⟩, ?_⟩
  rintro _ n w7 ⟨j, M, rfl, hj, o7, U7⟩
  have ej : IntKind.i64.wrap ((j : Int) + 1) = ((j + 1 : Nat) : Int) := by rw [wrap_i64 (by omega) (by omega)]; omega
  rw [ej, Int.toNat_natCast]
  refine ⟨fun hlt => ⟨by omega, hlt, q, hq, o7.canAt hq (by omega), fun w8 s8 => ?_⟩, fun hge => U7⟩
  obtain ⟨o8, u8⟩ := own_setAll o7 hq (by omega) s8
  exact ⟨⟨j + 1, _, rfl, by omega, o8, upT U7 u8⟩, by dsimp only; omega⟩
end
end Go.Proofs.YtfppdkkbekkhbaaDoor.V
