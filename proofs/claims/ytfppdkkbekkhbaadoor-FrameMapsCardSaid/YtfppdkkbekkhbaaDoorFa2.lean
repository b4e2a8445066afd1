/-
  Frames: same, less, join, copy.
-/
import Derived.Test.YtfppdkkbekkhbaaDoorFa1
namespace Go.Proofs.YtfppdkkbekkhbaaDoor.V
open Go Go.RowKit
set_option linter.unusedVariables false
set_option linter.unusedSimpArgs false
set_option maxRecDepth 100000

abbrev FB (w : World) (g : Nat) (s t : Sl) : Prop := Blk w g 24 [.slice s.a s.n s.c, .slice t.a t.n t.c]
abbrev frV (s t : Sl) : Value := .agg #[.slice s.a s.n s.c, .slice t.a t.n t.c]
theorem FB.made {w w1 w2 : World} {s t : Sl} (n : NewW w (.cells #[.slice none 0 0, .slice none 0 0] 24) w1) (h : SetW w1 ⟨w.heap.size, 0, none⟩ [.slice s.a s.n s.c, .slice t.a t.n t.c] w2) : FB w2 w.heap.size s t ∧ Ext w w2 :=
  ⟨h.blk (Blk.new n), n.ext.fresh h.upd (by rintro i rfl; exact Nat.le_refl _)⟩
theorem FB.can {w w1 : World} (n : NewW w (.cells #[.slice none 0 0, .slice none 0 0] 24) w1) : CanSet w1 ⟨w.heap.size, 0, none⟩ 2 := (Blk.new n).canSetN 0 2 (by simp)
theorem FB.set {w w' : World} {g : Nat} {a b : Value} {s t : Sl} (hb : Blk w g 24 [a, b]) (h : SetW w ⟨g, 0, none⟩ [.slice s.a s.n s.c, .slice t.a t.n t.c] w') : FB w' g s t := h.blk hb
/-- slots of a frame that are read -/
structure Fr2 (w : World) (s t : Sl) (xs ys : List Int) : Prop where
  a : Rd w 1 s (iv xs)
  b : Rd w 1 t (iv ys)
  m : xs.length ≤ 17592186043905
  k : ys.length ≤ 17592186043905
theorem Fr2.ext {w w' : World} {s t : Sl} {xs ys : List Int} (h : Fr2 w s t xs ys) (x : Ext w w') : Fr2 w' s t xs ys := ⟨h.a.ext x, h.b.ext x, h.m, h.k⟩
def JoinOk (xs ys xs' ys' : List Int) : Prop := xs.length = xs'.length ∧ ys.length = ys'.length
instance (xs ys xs' ys' : List Int) : Decidable (JoinOk xs ys xs' ys') := inferInstanceAs (Decidable (_ ∧ _))
section
variable {w : World} {a b a0 a1 b0 b1 : Sl} {xs ys xs' ys' : List Int}
theorem same_spec (h : Fr2 w a0 a1 xs ys) (k : Fr2 w b0 b1 xs' ys') :
    Calls Tryd.prog 20 #[frV a0 a1, frV b0 b1] w fun e w' => e = .returned (.bool (decide (xs = xs' ∧ ys = ys'))) ∧ Ext w w' := by
  refine vc_20 _ _ _ _ _ _ ?_
  have hm := h.m; have hk := h.k
  simp only [eq_self, false_or, or_false, true_and, and_true, decide_eq_true_eq, decide_eq_false_iff_not, gd_st, gd_sf, exists_eq_left', exists_eq_left, Option.some.injEq, Sl.eta, Nat.reduceLeDiff, Int.reduceLE, Int.reduceLT, Int.reduceEq, Int.reduceNe, Nat.reduceMul, Nat.reduceAdd, Nat.reduceSub, Int.toNat_natCast, beq_iff_eq, bne_iff_ne, beq_eq_false_iff_ne, bne_eq_false_iff_eq, pick_and, pick_or, Bool.and_eq_true, Bool.or_eq_true, Bool.and_eq_false_iff, Bool.or_eq_false_iff, ne_eq, not_false_eq_true, Bool.not_eq_true', Bool.not_eq_false', reduceCtorEq, Nat.le_refl, Nat.zero_mul, Nat.mul_one, Nat.zero_add, Int.reduceToNat, ones, one, add_mk, Decidable.not_not, cond_true, cond_false, true_implies, false_implies, implies_true, Bool.not_true, Bool.not_false]
  intro w1 n1 w2 n2
  have x2 := n1.ext.trans n2.ext
  have f2 : FB w2 w.heap.size a0 a1 := (Blk.new n1).ext n2.ext
  have g2 : FB w2 w1.heap.size b0 b1 := Blk.new n2
  refine ⟨a0, f2.cell 0, b0, g2.cell 0, ⟨(equal_spec (h.a.ext x2) (k.a.ext x2) (by omega)).mono ?_⟩⟩
  rintro e w3 ⟨rfl, x3⟩
  have x03 := x2.trans x3
  refine ⟨_, rfl, fun h1 => ⟨a1, (f2.ext x3).cell 1, b1, (g2.ext x3).cell 1, ⟨(equal_spec (h.b.ext x03) (k.b.ext x03) (by omega)).mono ?_⟩⟩, fun h1 => ⟨rb (decide_eq_false fun hh => of_decide_eq_false h1 hh.1).symm, x03⟩⟩
  rintro e w4 ⟨rfl, x4⟩
  refine ⟨_, rfl, rb ?_, x03.trans x4⟩
  rw [decide_eq_decide]
  exact ⟨fun e => ⟨of_decide_eq_true h1, e⟩, fun e => e.2⟩
theorem rsame_spec (h : Fr2 w a0 a1 xs ys) (k : Fr2 w b0 b1 xs' ys') :
    Calls Tryd.prog 16 #[frV a0 a1, frV b0 b1] w fun e w' => e = .returned (.bool (decide (xs = xs' ∧ ys = ys'))) ∧ Ext w w' := by
  refine vc_16 _ _ _ _ _ _ ?_
  have hm := h.m; have hk := h.k
  simp only [eq_self, false_or, or_false, true_and, and_true, decide_eq_true_eq, decide_eq_false_iff_not, gd_st, gd_sf, exists_eq_left', exists_eq_left, Option.some.injEq, Sl.eta, Nat.reduceLeDiff, Int.reduceLE, Int.reduceLT, Int.reduceEq, Int.reduceNe, Nat.reduceMul, Nat.reduceAdd, Nat.reduceSub, Int.toNat_natCast, beq_iff_eq, bne_iff_ne, beq_eq_false_iff_ne, bne_eq_false_iff_eq, pick_and, pick_or, Bool.and_eq_true, Bool.or_eq_true, Bool.and_eq_false_iff, Bool.or_eq_false_iff, ne_eq, not_false_eq_true, Bool.not_eq_true', Bool.not_eq_false', reduceCtorEq, Nat.le_refl, Nat.zero_mul, Nat.mul_one, Nat.zero_add, Int.reduceToNat, ones, one, add_mk, Decidable.not_not, cond_true, cond_false, true_implies, false_implies, implies_true, Bool.not_true, Bool.not_false]
  intro w1 n1 w2 n2
  have x2 := n1.ext.trans n2.ext
  have f2 : FB w2 w.heap.size a0 a1 := (Blk.new n1).ext n2.ext
  have g2 : FB w2 w1.heap.size b0 b1 := Blk.new n2
  refine ⟨a0, f2.cell 0, b0, g2.cell 0, ⟨(requal_spec (h.a.ext x2) (k.a.ext x2) (by omega)).mono ?_⟩⟩
  rintro e w3 ⟨rfl, x3⟩
  have x03 := x2.trans x3
  refine ⟨_, rfl, fun h1 => ⟨a1, (f2.ext x3).cell 1, b1, (g2.ext x3).cell 1, ⟨(requal_spec (h.b.ext x03) (k.b.ext x03) (by omega)).mono ?_⟩⟩, fun h1 => ⟨rb (decide_eq_false fun hh => of_decide_eq_false h1 hh.1).symm, x03⟩⟩
  rintro e w4 ⟨rfl, x4⟩
  refine ⟨_, rfl, rb ?_, x03.trans x4⟩
  rw [decide_eq_decide]
  exact ⟨fun e => ⟨of_decide_eq_true h1, e⟩, fun e => e.2⟩
theorem less_spec (h : Fr2 w a0 a1 xs ys) (k : Fr2 w b0 b1 xs' ys') :
    Calls Tryd.prog 21 #[frV a0 a1, frV b0 b1] w fun e w' => e = .returned (.bool (decide (LessP xs xs' ∧ LessP ys ys'))) ∧ Ext w w' := by
  refine vc_21 _ _ _ _ _ _ ?_
  have hm := h.m; have hk := h.k
  simp only [eq_self, false_or, or_false, true_and, and_true, decide_eq_true_eq, decide_eq_false_iff_not, gd_st, gd_sf, exists_eq_left', exists_eq_left, Option.some.injEq, Sl.eta, Nat.reduceLeDiff, Int.reduceLE, Int.reduceLT, Int.reduceEq, Int.reduceNe, Nat.reduceMul, Nat.reduceAdd, Nat.reduceSub, Int.toNat_natCast, beq_iff_eq, bne_iff_ne, beq_eq_false_iff_ne, bne_eq_false_iff_eq, pick_and, pick_or, Bool.and_eq_true, Bool.or_eq_true, Bool.and_eq_false_iff, Bool.or_eq_false_iff, ne_eq, not_false_eq_true, Bool.not_eq_true', Bool.not_eq_false', reduceCtorEq, Nat.le_refl, Nat.zero_mul, Nat.mul_one, Nat.zero_add, Int.reduceToNat, ones, one, add_mk, Decidable.not_not, cond_true, cond_false, true_implies, false_implies, implies_true, Bool.not_true, Bool.not_false]
  intro w1 n1 w2 n2
  have x2 := n1.ext.trans n2.ext
  have f2 : FB w2 w.heap.size a0 a1 := (Blk.new n1).ext n2.ext
  have g2 : FB w2 w1.heap.size b0 b1 := Blk.new n2
  refine ⟨a0, f2.cell 0, b0, g2.cell 0, ⟨(equalFunc_spec (h.a.ext x2) (k.a.ext x2) (by omega)).mono ?_⟩⟩
  rintro e w3 ⟨rfl, x3⟩
  have x03 := x2.trans x3
  refine ⟨_, rfl, fun h1 => ⟨a1, (f2.ext x3).cell 1, b1, (g2.ext x3).cell 1, ⟨(equalFunc_spec (h.b.ext x03) (k.b.ext x03) (by omega)).mono ?_⟩⟩, fun h1 => ⟨rb (decide_eq_false fun hh => of_decide_eq_false h1 hh.1).symm, x03⟩⟩
  rintro e w4 ⟨rfl, x4⟩
  refine ⟨_, rfl, rb ?_, x03.trans x4⟩
  rw [decide_eq_decide]
  exact ⟨fun e => ⟨of_decide_eq_true h1, e⟩, fun e => e.2⟩
theorem rlessF_spec (h : Fr2 w a0 a1 xs ys) (k : Fr2 w b0 b1 xs' ys') :
    Calls Tryd.prog 22 #[frV a0 a1, frV b0 b1] w fun e w' => e = .returned (.bool (decide (LessP xs xs' ∧ LessP ys ys'))) ∧ Ext w w' := by
  refine vc_22 _ _ _ _ _ _ ?_
  have hm := h.m; have hk := h.k
  simp only [eq_self, false_or, or_false, true_and, and_true, decide_eq_true_eq, decide_eq_false_iff_not, gd_st, gd_sf, exists_eq_left', exists_eq_left, Option.some.injEq, Sl.eta, Nat.reduceLeDiff, Int.reduceLE, Int.reduceLT, Int.reduceEq, Int.reduceNe, Nat.reduceMul, Nat.reduceAdd, Nat.reduceSub, Int.toNat_natCast, beq_iff_eq, bne_iff_ne, beq_eq_false_iff_ne, bne_eq_false_iff_eq, pick_and, pick_or, Bool.and_eq_true, Bool.or_eq_true, Bool.and_eq_false_iff, Bool.or_eq_false_iff, ne_eq, not_false_eq_true, Bool.not_eq_true', Bool.not_eq_false', reduceCtorEq, Nat.le_refl, Nat.zero_mul, Nat.mul_one, Nat.zero_add, Int.reduceToNat, ones, one, add_mk, Decidable.not_not, cond_true, cond_false, true_implies, false_implies, implies_true, Bool.not_true, Bool.not_false]
  intro w1 n1 w2 n2
  have x2 := n1.ext.trans n2.ext
  have f2 : FB w2 w.heap.size a0 a1 := (Blk.new n1).ext n2.ext
  have g2 : FB w2 w1.heap.size b0 b1 := Blk.new n2
  refine ⟨a0, f2.cell 0, b0, g2.cell 0, ⟨(rless_spec (h.a.ext x2) (k.a.ext x2) (by omega)).mono ?_⟩⟩
  rintro e w3 ⟨rfl, x3⟩
  have x03 := x2.trans x3
  refine ⟨_, rfl, fun h1 => ⟨a1, (f2.ext x3).cell 1, b1, (g2.ext x3).cell 1, ⟨(rless_spec (h.b.ext x03) (k.b.ext x03) (by omega)).mono ?_⟩⟩, fun h1 => ⟨rb (decide_eq_false fun hh => of_decide_eq_false h1 hh.1).symm, x03⟩⟩
  rintro e w4 ⟨rfl, x4⟩
  refine ⟨_, rfl, rb ?_, x03.trans x4⟩
  rw [decide_eq_decide]
  exact ⟨fun e => ⟨of_decide_eq_true h1, e⟩, fun e => e.2⟩
theorem both_spec (ha : Rd w 1 a (iv xs)) (hb : Rd w 1 b (iv ys)) (hl : xs.length = ys.length) (hm : xs.length ≤ 17592186043905) :
    Calls Tryd.prog 30 #[.slice a.a a.n a.c, .slice b.a b.n b.c] w fun e w' => ∃ s : Sl, e = .returned (.slice s.a s.n s.c) ∧ Own w' w.heap.size 3 1 s (iv (bothL xs ys)) ∧ Ext w w' := by
  refine vc_30 _ _ _ _ ?_
  have la := ha.leni; have lb := hb.leni
  have hbl := bothL_length hl
  simp only [eq_self, false_or, or_false, true_and, and_true, decide_eq_true_eq, decide_eq_false_iff_not, gd_st, gd_sf, exists_eq_left', exists_eq_left, Option.some.injEq, Sl.eta, Nat.reduceLeDiff, Int.reduceLE, Int.reduceLT, Int.reduceEq, Int.reduceNe, Nat.reduceMul, Nat.reduceAdd, Nat.reduceSub, Int.toNat_natCast, beq_iff_eq, bne_iff_ne, beq_eq_false_iff_ne, bne_eq_false_iff_eq, pick_and, pick_or, Bool.and_eq_true, Bool.or_eq_true, Bool.and_eq_false_iff, Bool.or_eq_false_iff, ne_eq, not_false_eq_true, Bool.not_eq_true', Bool.not_eq_false', reduceCtorEq, Nat.le_refl, Nat.zero_mul, Nat.mul_one, Nat.zero_add, Int.reduceToNat, ones, one, add_mk, Decidable.not_not, cond_true, cond_false, true_implies, false_implies, implies_true, Bool.not_true, Bool.not_false]
  refine ⟨(clone_spec ha (by omega)).mono ?_⟩
  rintro e w1 ⟨s, rfl, hsn, o1, x1⟩
  refine ⟨s, rfl, fun n w' => ∃ (i : Nat) (L : List Int), n = i ∧ i ≤ b.n ∧ L.length = xs.length ∧ (∀ k, k < i → L[k]? = (bothL xs ys)[k]?) ∧ (∀ k, i ≤ k → L[k]? = xs[k]?) ∧ Own w' w.heap.size 3 1 s (iv L) ∧ Ext w w', fun n _ => (b.n - n).toNat,
    ⟨0, xs, rfl, Nat.zero_le _, rfl, fun k h => absurd h (Nat.not_lt_zero _), fun k _ => rfl, o1, x1⟩, ?_⟩
  rintro _ n w2 ⟨i, L, rfl, hi, hL, hlo, hhi, o2, x2⟩
  refine ⟨fun hlt => ?_, fun hge => ⟨s, rfl, ?_, x2⟩⟩
  rotate_left
  · have : L = bothL xs ys := ext_of (by omega) fun k hk => hlo k (by omega)
    rw [← this]; exact o2
  obtain ⟨q, y, hq, hy, hcy⟩ := (hb.ext x2).intl i (by omega)
  obtain ⟨p, x, hp, hx, hcx⟩ := o2.rd.intl i (by omega)
  rw [hhi i (Nat.le_refl _)] at hx
  rw [Nat.mul_one] at hcx hcy
  rw [Int.toNat_natCast]
  have ei : IntKind.i64.wrap ((i : Int) + 1) = ((i + 1 : Nat) : Int) := by rw [wrap_i64 (by omega) (by omega)]; omega
  rw [ei]
  have hbx := bothL_at hx hy
  refine ⟨by omega, hlt, q, hq, _, hcy, by omega, by omega, p, hp, _, hcx, fun hne => ⟨by omega, by omega, p, hp, o2.canAt hp (by omega), fun w3 s3 => ?_⟩, fun he => ⟨⟨i + 1, L, rfl, by omega, hL, fun k hk => ?_, fun k hk => hhi k (by omega), o2, x2⟩, by dsimp only; omega⟩⟩
  · obtain ⟨o3, u3⟩ := o2.setAt hp (by omega) s3
    have hset : (iv L).set i (.int .i64 (-1)) = iv (L.set i (-1)) := by unfold iv; rw [List.map_set]
    rw [hset] at o3
    have hpb := (o2.base p hp).1
    refine ⟨⟨i + 1, L.set i (-1), rfl, by omega, by rw [List.length_set]; exact hL, fun k hk => ?_, fun k hk => ?_, o3, x2.fresh u3 (by rintro j rfl; exact hpb)⟩, by dsimp only; omega⟩
    · rw [List.getElem?_set]
      by_cases h : i = k
      · subst h; rw [if_pos rfl, if_pos (by omega), hbx, if_neg hne]
      · rw [if_neg h]; exact hlo k (by omega)
    · rw [List.getElem?_set_ne (by omega)]; exact hhi k (by omega)
  · rcases Nat.lt_or_ge k i with h | h
    · exact hlo k h
    · have : k = i := by omega
      rw [this, hbx, if_pos he, hhi i (Nat.le_refl _), hx]
/-- a number appended to a row of one's own -/
theorem push1 {w w1 : World} {B : Nat} {x : Int} {c : Sl} {xs : List Int} (o : Own w B 3 1 c (iv xs)) (hB : B ≤ w.heap.size) (hl : xs.length ≤ 17592186044000) (n1 : NewW w (.cells #[.int .i64 x] 3) w1) :
    ∃ c' w', Runs Tryd.prog (Builtin.append_ #[22, 22] 22 #[.slice c.a c.n c.c, .slice (some ⟨w.heap.size, 0, none⟩) 1 1]) w1 (.slice c'.a c'.n c'.c) w' ∧ c'.n = c.n + 1 ∧ Own w' B 3 1 c' (iv (xs ++ [x])) ∧ Upd (fun k => ∃ q, c.a = some q ∧ k = q.block) w w' ∧
      (∀ q, c'.a = some q → c.a = some q ∨ w.heap.size ≤ q.block) := by
  have hn := o.rd.leni
  have rd : Rd w1 1 ⟨some ⟨w.heap.size, 0, none⟩, 1, 1⟩ (iv [x]) := (Blk.new n1).rd (z := 1) (o := 0) (n := 1) (c := 1) (by simp)
  obtain ⟨c', w', hr, hcn, o', u', hcase⟩ := (o.ext n1.ext).append (t := 22) (ty := 22) tab_ok (by rfl) (by rfl) (by decide) rd (iv_ones _) (by dsimp only; omega) (by dsimp only; omega) (by have := n1.ext.size; omega)
  have z := n1.ext.size
  refine ⟨c', w', hr, hcn, by rw [iv_append]; exact o', n1.ext.toS.trans u' fun i hi hn => ⟨hn, hn⟩, fun q hq => ?_⟩
  rcases hcase q hq with h | h
  · exact .inl h
  · exact .inr (by omega)
theorem rboth_spec (ha : Rd w 1 a (iv xs)) (hb : Rd w 1 b (iv ys)) (hl : xs.length = ys.length) (hm : xs.length ≤ 17592186043905) :
    Calls Tryd.prog 31 #[.slice a.a a.n a.c, .slice b.a b.n b.c] w fun e w' => ∃ s : Sl, e = .returned (.slice s.a s.n s.c) ∧ Own w' w.heap.size 3 1 s (iv (bothL xs ys)) ∧ Ext w w' := by
  refine vc_31 _ _ _ _ ?_
  have la := ha.leni; have lb := hb.leni
  have hbl := bothL_length hl
  simp only [eq_self, false_or, or_false, true_and, and_true, decide_eq_true_eq, decide_eq_false_iff_not, gd_st, gd_sf, exists_eq_left', exists_eq_left, Option.some.injEq, Sl.eta, Nat.reduceLeDiff, Int.reduceLE, Int.reduceLT, Int.reduceEq, Int.reduceNe, Nat.reduceMul, Nat.reduceAdd, Nat.reduceSub, Int.toNat_natCast, beq_iff_eq, bne_iff_ne, beq_eq_false_iff_ne, bne_eq_false_iff_eq, pick_and, pick_or, Bool.and_eq_true, Bool.or_eq_true, Bool.and_eq_false_iff, Bool.or_eq_false_iff, ne_eq, not_false_eq_true, Bool.not_eq_true', Bool.not_eq_false', reduceCtorEq, Nat.le_refl, Nat.zero_mul, Nat.mul_one, Nat.zero_add, Int.reduceToNat, ones, one, add_mk, Decidable.not_not, cond_true, cond_false, true_implies, false_implies, implies_true, Bool.not_true, Bool.not_false]
  refine ⟨fun s n w' => ∃ i : Nat, n = i ∧ i ≤ a.n ∧ Own w' w.heap.size 3 1 s (iv ((bothL xs ys).take i)) ∧ Ext w w', fun _ n _ => (a.n - n).toNat, ⟨0, rfl, Nat.zero_le _, by rw [List.take_zero]; exact Own.nil _ _ _ _, Ext.refl w⟩, ?_⟩
  rintro _ s n w1 ⟨i, rfl, hi, o1, x1⟩
  refine ⟨fun hlt => ?_, fun hge => ⟨s, rfl, by rw [List.take_of_length_le (by omega)] at o1; exact o1, x1⟩⟩
  obtain ⟨p, x, hp, hx, hcx⟩ := (ha.ext x1).intl i (by omega)
  obtain ⟨q, y, hq, hy, hcy⟩ := (hb.ext x1).intl i (by omega)
  rw [Nat.mul_one] at hcx hcy
  rw [Int.toNat_natCast]
  have ei : IntKind.i64.wrap ((i : Int) + 1) = ((i + 1 : Nat) : Int) := by rw [wrap_i64 (by omega) (by omega)]; omega
  rw [ei]
  have hbx := bothL_at hx hy
  refine ⟨by omega, hlt, p, hp, _, hcx, by omega, by omega, q, hq, _, hcy, fun w2 q2 => ?_⟩
  have o2 := o1.ext q2.ext
  have x2 := x1.trans q2.ext
  have tl : ((bothL xs ys).take i).length ≤ 17592186044000 := by rw [List.length_take]; omega
  have fin : ∀ {c' : Sl} {w' : World} {z : Int}, (bothL xs ys)[i]? = some z → Own w' w.heap.size 3 1 c' (iv ((bothL xs ys).take i ++ [z])) → Upd (fun k => ∃ q, s.a = some q ∧ k = q.block) w2 w' → ∃ i' : Nat, ((i + 1 : Nat) : Int) = i' ∧ i' ≤ a.n ∧ Own w' w.heap.size 3 1 c' (iv ((bothL xs ys).take i')) ∧ Ext w w' := fun hz o u =>
    ⟨i + 1, rfl, by omega, by rw [take_snoc hz]; exact o, x2.fresh u (by rintro j ⟨q, hq, rfl⟩; exact (o2.base q hq).1)⟩
  refine ⟨fun he => ⟨by omega, hlt, p, hp, _, q2.ext.cell hcx not_false, fun w3 n3 => ?_⟩, fun hne w3 n3 => ?_⟩
  · obtain ⟨c', w4, hr, _, o4, u4, _⟩ := push1 o2 x2.size tl n3
    exact ⟨c', w4, hr, fin (by rw [hbx, if_pos he]) o4 u4, by dsimp only; omega⟩
  · obtain ⟨c', w4, hr, _, o4, u4, _⟩ := push1 o2 x2.size tl n3
    exact ⟨c', w4, hr, fin (by rw [hbx, if_neg hne]) o4 u4, by dsimp only; omega⟩
/-- what Join gives -/
structure Joined (w0 w : World) (s t : Sl) (xs ys xs' ys' : List Int) : Prop where
  a : Own w w0.heap.size 3 1 s (iv (if JoinOk xs ys xs' ys' then bothL xs xs' else []))
  b : Own w w0.heap.size 3 1 t (iv (if JoinOk xs ys xs' ys' then bothL ys ys' else []))
  ap : Apart s t
  x : Ext w0 w
theorem join_spec (h : Fr2 w a0 a1 xs ys) (k : Fr2 w b0 b1 xs' ys') :
    Calls Tryd.prog 13 #[frV a0 a1, frV b0 b1] w fun e w' => ∃ s t : Sl, e = .returned (.tuple #[frV s t, .bool (decide (JoinOk xs ys xs' ys'))]) ∧ Joined w w' s t xs ys xs' ys' := by
  refine vc_13 _ _ _ _ _ _ ?_
  have l0 := h.a.leni; have l1 := h.b.leni; have m0 := k.a.leni; have m1 := k.b.leni
  have hm := h.m; have hk := h.k
  simp only [eq_self, false_or, or_false, true_and, and_true, decide_eq_true_eq, decide_eq_false_iff_not, gd_st, gd_sf, exists_eq_left', exists_eq_left, Option.some.injEq, Sl.eta, Nat.reduceLeDiff, Int.reduceLE, Int.reduceLT, Int.reduceEq, Int.reduceNe, Nat.reduceMul, Nat.reduceAdd, Nat.reduceSub, Int.toNat_natCast, beq_iff_eq, bne_iff_ne, beq_eq_false_iff_ne, bne_eq_false_iff_eq, pick_and, pick_or, Bool.and_eq_true, Bool.or_eq_true, Bool.and_eq_false_iff, Bool.or_eq_false_iff, ne_eq, not_false_eq_true, Bool.not_eq_true', Bool.not_eq_false', reduceCtorEq, Nat.le_refl, Nat.zero_mul, Nat.mul_one, Nat.zero_add, Int.reduceToNat, ones, one, add_mk, Decidable.not_not, cond_true, cond_false, true_implies, false_implies, implies_true, Bool.not_true, Bool.not_false]
  intro w1 n1 w2 n2 w3 n3
  have x3 := (n1.ext.trans n2.ext).trans n3.ext
  have f3 : FB w3 w.heap.size a0 a1 := (Blk.new n1).ext (n2.ext.trans n3.ext)
  have g3 : FB w3 w1.heap.size b0 b1 := (Blk.new n2).ext n3.ext
  have z1 := n1.size; have z2 := n2.size
  have no : ¬ JoinOk xs ys xs' ys' → CanSet w3 ⟨w2.heap.size, 0, none⟩ 2 ∧ ∀ w4, SetW w3 ⟨w2.heap.size, 0, none⟩ [.slice none 0 0, .slice none 0 0] w4 → ∃ s s_3 : Sl, len' [Value.slice s.a s.n s.c, .slice s_3.a s_3.n s_3.c] = 2 ∧ (w4.cell? ⟨w2.heap.size, 0, none⟩ = some (.slice s.a s.n s.c) ∧ w4.cell? ⟨w2.heap.size, 1, none⟩ = some (.slice s_3.a s_3.n s_3.c)) ∧
      ∃ s' t : Sl, Ending.returned (.tuple #[.agg #[.slice s.a s.n s.c, .slice s_3.a s_3.n s_3.c], .bool false]) = .returned (.tuple #[frV s' t, .bool (decide (JoinOk xs ys xs' ys'))]) ∧ Joined w w4 s' t xs ys xs' ys' := by
    intro hno
    refine ⟨FB.can n3, fun w4 s4 => ?_⟩
    have f4 : FB w4 w2.heap.size ⟨none, 0, 0⟩ ⟨none, 0, 0⟩ := FB.set (Blk.new n3) s4
    refine ⟨⟨none, 0, 0⟩, ⟨none, 0, 0⟩, rfl, ⟨f4.cell 0, f4.cell 1⟩, ⟨none, 0, 0⟩, ⟨none, 0, 0⟩, by rw [decide_eq_false hno], ?_, ?_, fun p q hp => (by cases hp), x3.fresh s4.upd (by rintro i rfl; dsimp only; omega)⟩
    · rw [if_neg hno]; exact Own.nil _ _ _ _
    · rw [if_neg hno]; exact Own.nil _ _ _ _
  refine ⟨a0, f3.cell 0, b0, g3.cell 0, fun he => ⟨a1, f3.cell 1, b1, g3.cell 1, fun hne => no (fun hj => hne (by rw [← l1, ← m1, hj.2])), fun he1 w4 q4 => ?_⟩, fun hne => no (fun hj => hne (by rw [← l0, ← m0, hj.1]))⟩
  have hj : JoinOk xs ys xs' ys' := ⟨by omega, by omega⟩
  have x4 := x3.trans q4.ext
  have f4 := f3.ext q4.ext; have g4 := g3.ext q4.ext
  have hh := h.ext x4; have kk := k.ext x4
  refine ⟨fun _ => False, a0, fun w' u => (f4.ext u).cell 0, b0, fun w' u => (g4.ext u).cell 0, a1, fun w' u => (f4.ext u).cell 1, b1, fun w' u => (g4.ext u).cell 1, ⟨(both_spec hh.a kk.a hj.1 hh.m).mono ?_⟩⟩
  rintro e w5 ⟨s, rfl, o5, x5⟩
  refine ⟨s, rfl, x5, ⟨(both_spec (hh.b.ext x5) (kk.b.ext x5) hj.2 hh.k).mono ?_⟩⟩
  rintro e w6 ⟨t, rfl, o6, x6⟩
  have x46 := x5.trans x6
  have z4 := x4.size; have z5 := x5.size
  have b6 := (((Blk.new n3).ext q4.ext).ext x46)
  refine ⟨t, rfl, by simp [len', wr], by simp [len', wr], b6.canSetN 0 2 (by simp), fun w7 s7 => ?_⟩
  have f7 : FB w7 w2.heap.size s t := FB.set b6 s7
  have u7 : Upd (fun i => i = w2.heap.size) w6 w7 := s7.upd
  have os7 := (o5.ext x6).upd u7 (own_blk_ne (o5.ext x6) b6 (by decide))
  have ot7 := o6.upd u7 (own_blk_ne o6 b6 (by decide))
  refine ⟨s, t, rfl, ⟨f7.cell 0, f7.cell 1⟩, s, t, by rw [decide_eq_true hj], ?_, ?_, fun p q hp hq he => ?_, (x4.trans x46).fresh u7 (by rintro i rfl; omega)⟩
  · rw [if_pos hj]; exact os7.mono z4
  · rw [if_pos hj]; exact ot7.mono (by omega)
  · have h1 := (o5.base p hp).2; have h2 := (o6.base q hq).1; omega
theorem rjoin_spec (h : Fr2 w a0 a1 xs ys) (k : Fr2 w b0 b1 xs' ys') :
    Calls Tryd.prog 14 #[frV a0 a1, frV b0 b1] w fun e w' => ∃ s t : Sl, e = .returned (.tuple #[frV s t, .bool (decide (JoinOk xs ys xs' ys'))]) ∧ Joined w w' s t xs ys xs' ys' := by
  refine vc_14 _ _ _ _ _ _ ?_
  have l0 := h.a.leni; have l1 := h.b.leni; have m0 := k.a.leni; have m1 := k.b.leni
  have hm := h.m; have hk := h.k
  simp only [eq_self, false_or, or_false, true_and, and_true, decide_eq_true_eq, decide_eq_false_iff_not, gd_st, gd_sf, exists_eq_left', exists_eq_left, Option.some.injEq, Sl.eta, Nat.reduceLeDiff, Int.reduceLE, Int.reduceLT, Int.reduceEq, Int.reduceNe, Nat.reduceMul, Nat.reduceAdd, Nat.reduceSub, Int.toNat_natCast, beq_iff_eq, bne_iff_ne, beq_eq_false_iff_ne, bne_eq_false_iff_eq, pick_and, pick_or, Bool.and_eq_true, Bool.or_eq_true, Bool.and_eq_false_iff, Bool.or_eq_false_iff, ne_eq, not_false_eq_true, Bool.not_eq_true', Bool.not_eq_false', reduceCtorEq, Nat.le_refl, Nat.zero_mul, Nat.mul_one, Nat.zero_add, Int.reduceToNat, ones, one, add_mk, Decidable.not_not, cond_true, cond_false, true_implies, false_implies, implies_true, Bool.not_true, Bool.not_false]
  intro w1 n1 w2 n2 w3 n3
  have x3 := (n1.ext.trans n2.ext).trans n3.ext
  have f3 : FB w3 w.heap.size a0 a1 := (Blk.new n1).ext (n2.ext.trans n3.ext)
  have g3 : FB w3 w1.heap.size b0 b1 := (Blk.new n2).ext n3.ext
  have z1 := n1.size; have z2 := n2.size
  have no : ¬ JoinOk xs ys xs' ys' → CanSet w3 ⟨w2.heap.size, 0, none⟩ 2 ∧ ∀ w4, SetW w3 ⟨w2.heap.size, 0, none⟩ [.slice none 0 0, .slice none 0 0] w4 → ∃ s s_3 : Sl, len' [Value.slice s.a s.n s.c, .slice s_3.a s_3.n s_3.c] = 2 ∧ (w4.cell? ⟨w2.heap.size, 0, none⟩ = some (.slice s.a s.n s.c) ∧ w4.cell? ⟨w2.heap.size, 1, none⟩ = some (.slice s_3.a s_3.n s_3.c)) ∧
      ∃ s' t : Sl, Ending.returned (.tuple #[.agg #[.slice s.a s.n s.c, .slice s_3.a s_3.n s_3.c], .bool false]) = .returned (.tuple #[frV s' t, .bool (decide (JoinOk xs ys xs' ys'))]) ∧ Joined w w4 s' t xs ys xs' ys' := by
    intro hno
    refine ⟨FB.can n3, fun w4 s4 => ?_⟩
    have f4 : FB w4 w2.heap.size ⟨none, 0, 0⟩ ⟨none, 0, 0⟩ := FB.set (Blk.new n3) s4
    refine ⟨⟨none, 0, 0⟩, ⟨none, 0, 0⟩, rfl, ⟨f4.cell 0, f4.cell 1⟩, ⟨none, 0, 0⟩, ⟨none, 0, 0⟩, by rw [decide_eq_false hno], ?_, ?_, fun p q hp => (by cases hp), x3.fresh s4.upd (by rintro i rfl; dsimp only; omega)⟩
    · rw [if_neg hno]; exact Own.nil _ _ _ _
    · rw [if_neg hno]; exact Own.nil _ _ _ _
  refine ⟨a0, f3.cell 0, b0, g3.cell 0, fun he => ⟨a1, f3.cell 1, b1, g3.cell 1, fun hne => no (fun hj => hne (by rw [← l1, ← m1, hj.2])), fun he1 w4 q4 => ?_⟩, fun hne => no (fun hj => hne (by rw [← l0, ← m0, hj.1]))⟩
  have hj : JoinOk xs ys xs' ys' := ⟨by omega, by omega⟩
  have x4 := x3.trans q4.ext
  have f4 := f3.ext q4.ext; have g4 := g3.ext q4.ext
  have hh := h.ext x4; have kk := k.ext x4
  refine ⟨fun _ => False, a0, fun w' u => (f4.ext u).cell 0, b0, fun w' u => (g4.ext u).cell 0, a1, fun w' u => (f4.ext u).cell 1, b1, fun w' u => (g4.ext u).cell 1, ⟨(rboth_spec hh.a kk.a hj.1 hh.m).mono ?_⟩⟩
  rintro e w5 ⟨s, rfl, o5, x5⟩
  refine ⟨s, rfl, x5, ⟨(rboth_spec (hh.b.ext x5) (kk.b.ext x5) hj.2 hh.k).mono ?_⟩⟩
  rintro e w6 ⟨t, rfl, o6, x6⟩
  have x46 := x5.trans x6
  have z4 := x4.size; have z5 := x5.size
  have b6 := (((Blk.new n3).ext q4.ext).ext x46)
  refine ⟨t, rfl, by simp [len', wr], by simp [len', wr], b6.canSetN 0 2 (by simp), fun w7 s7 => ?_⟩
  have f7 : FB w7 w2.heap.size s t := FB.set b6 s7
  have u7 : Upd (fun i => i = w2.heap.size) w6 w7 := s7.upd
  have os7 := (o5.ext x6).upd u7 (own_blk_ne (o5.ext x6) b6 (by decide))
  have ot7 := o6.upd u7 (own_blk_ne o6 b6 (by decide))
  refine ⟨s, t, rfl, ⟨f7.cell 0, f7.cell 1⟩, s, t, by rw [decide_eq_true hj], ?_, ?_, fun p q hp hq he => ?_, (x4.trans x46).fresh u7 (by rintro i rfl; omega)⟩
  · rw [if_pos hj]; exact os7.mono z4
  · rw [if_pos hj]; exact ot7.mono (by omega)
  · have h1 := (o5.base p hp).2; have h2 := (o6.base q hq).1; omega
end
end Go.Proofs.YtfppdkkbekkhbaaDoor.V
