/-
  Repeat, Entry, Copy, by both.
-/
import Derived.Test.YtfppdkkbekkhbaaDoorFl1
import Derived.Test.YtfppdkkbekkhbaaDoorVcE
namespace Go.Proofs.YtfppdkkbekkhbaaDoor.V
open Go Go.RowKit
set_option linter.unusedVariables false
set_option linter.unusedSimpArgs false
set_option maxRecDepth 100000

/-- a row filled up to i -/
def rowU (v : Int) (k i : Nat) : List Value := List.replicate i (.int .i64 v) ++ List.replicate (k - i) (.int .i64 0)
theorem rowU_copy {v : Int} {k i n : Nat} (hi : i ≤ k) :
    (rowU v k i).take i ++ ((List.replicate n (Value.int .i64 v)).take (min n (k - i)) ++ (rowU v k i).drop (i + min n (k - i))) = rowU v k (i + min n (k - i)) := by
  unfold rowU
  rw [List.take_left' (by simp), List.drop_append, List.drop_eq_nil_of_le (by simp), List.nil_append, List.take_replicate, List.drop_replicate, ← List.append_assoc, List.replicate_append_replicate, List.length_replicate]
  congr 2 <;> omega
theorem rowU_length {v : Int} {k i : Nat} (hi : i ≤ k) : (rowU v k i).length = k := by simp [rowU]; omega
theorem iv_replicate (k : Nat) (v : Int) : iv (List.replicate k v) = List.replicate k (.int .i64 v) := by simp [iv]
section
variable {w : World}
theorem repeat_spec {x : Sl} {v : Int} {k : Nat} (hx : Rd w 1 x (iv [v])) (hk : k ≤ 1000) :
    Calls Tryd.prog 41 #[.slice x.a x.n x.c, .int .i64 (k : Nat)] w fun e w' => ∃ r : Sl, e = .returned (.slice r.a r.n r.c) ∧ r.n = k ∧ Own w' w.heap.size 3 1 r (iv (List.replicate k v)) ∧ Ext w w' := by
  refine vc_41 _ _ _ _ ?_
  have hn : 1 = x.n := hx.leni
  simp only [eq_self, false_or, or_false, true_and, and_true, decide_eq_true_eq, decide_eq_false_iff_not, gd_st, gd_sf, exists_eq_left', exists_eq_left, Option.some.injEq, Sl.eta, Nat.reduceLeDiff, Int.reduceLE, Int.reduceLT, Int.reduceEq, Int.reduceNe, Nat.reduceMul, Nat.reduceAdd, Nat.reduceSub, Int.toNat_natCast, beq_iff_eq, bne_iff_ne, beq_eq_false_iff_ne, bne_eq_false_iff_eq, pick_and, pick_or, Bool.and_eq_true, Bool.or_eq_true, Bool.and_eq_false_iff, Bool.or_eq_false_iff, ne_eq, not_false_eq_true, Bool.not_eq_true', Bool.not_eq_false', reduceCtorEq, Nat.le_refl, Nat.zero_mul, Nat.mul_one, Nat.zero_add, Int.reduceToNat, ones, one, add_mk, Decidable.not_not, cond_true, cond_false, true_implies, false_implies, implies_true, Bool.not_true, Bool.not_false]
  refine ⟨fun w' => w' = w, ⟨fun h => by omega, fun _ => rfl⟩, ?_⟩
  rintro _ w1 rfl
  have e1 : IntKind.u64.wrap (x.n : Int) = ((1 : Nat) : Int) := by rw [← hn]; decide
  have e2 : IntKind.u64.wrap (k : Int) = ((k : Nat) : Int) := wrap_u64 (by omega) (by omega)
  rw [e1, e2]
  have hb := Tryd.bits_Mul 1 k (by decide) (by omega) w1
  rw [show 1 * k / 18446744073709551616 = 0 by omega, show 1 * k % 18446744073709551616 = k by omega] at hb
  refine ⟨hb.mono ?_⟩
  rintro e w2 ⟨rfl, rfl⟩
  refine ⟨_, _, rfl, fun w' => w' = w2, ⟨fun _ => ⟨fun h => by omega, fun _ => rfl⟩, fun h => by omega⟩, ?_⟩
  rintro _ w3 rfl
  have e3 : IntKind.i64.wrap ((k : Nat) : Int) = (k : Int) := wrap_i64 (by omega) (by omega)
  rw [e3, Int.toNat_natCast]
  refine ⟨⟨by omega, by omega, by omega, by omega⟩, fun w4 n4 => ?_⟩
  have hb4 : Blk w4 w3.heap.size 3 (rowU v k 0) := by
    have := Blk.new n4
    rw [zrow_one] at this
    simpa [rowU] using this
  obtain ⟨w5, hr5, b5, u5, z5⟩ := run_copy (τ := tab) (P := Tryd.prog) (t1 := 22) (t2 := 22) (ty := 3) (o := 0) (dn := k) (dc := k) tab_ok (by rfl) (by rfl) hb4 (by rw [rowU_length (by omega)]; omega) (hx.ext n4.ext) (iv_ones _)
  have b5' : Blk w5 w3.heap.size 3 (rowU v k (0 + min 1 (k - 0))) := by
    rw [← rowU_copy (by omega)]
    rw [← hn] at b5
    simpa [iv] using b5
  refine ⟨_, w5, hr5, fun n w' => ∃ i : Nat, n = i ∧ i ≤ k ∧ (i = 0 → k = 0) ∧ Blk w' w3.heap.size 3 (rowU v k i) ∧ Ext w3 w', fun n _ => (k - n).toNat, ⟨0 + min 1 (k - 0), by rw [← hn]; omega, by omega, fun h => by omega, b5', n4.ext.fresh u5 (by rintro i rfl; omega)⟩, ?_⟩
  rintro _ n w6 ⟨i, rfl, hi, h0, b6, x6⟩
  refine ⟨fun hlt w7 q7 => ?_, fun hge => ?_⟩
  · have hi0 : 0 < i := by rcases Nat.eq_zero_or_pos i with h | h; have := h0 h; omega; exact h
    have b7 := b6.ext q7.ext
    have rd7 : Rd w7 1 ⟨some ⟨w3.heap.size, 0, none⟩, i, k⟩ (List.replicate i (.int .i64 v)) := by
      have := b7.rd (z := 1) (o := 0) (n := i) (c := k) (by rw [rowU_length (by omega)]; omega)
      rw [List.drop_zero, Nat.mul_one] at this
      unfold rowU at this
      rwa [List.take_left' (by simp)] at this
    obtain ⟨w8, hr8, b8, u8, z8⟩ := run_copy (τ := tab) (P := Tryd.prog) (t1 := 22) (t2 := 22) (ty := 3) (o := i) (dn := k - i) (dc := k - i) tab_ok (by rfl) (by rfl) b7 (by rw [rowU_length (by omega)]; omega) rd7 (fun v hv => by rw [List.eq_of_mem_replicate hv]; trivial)
    dsimp only at hr8 b8 u8
    rw [rowU_copy hi] at b8
    rw [Int.toNat_natCast, if_neg (by omega), if_neg (by omega)]
    have e4 : IntKind.i64.wrap ((i : Int) + ((min i (k - i) : Nat) : Int)) = ((i + min i (k - i) : Nat) : Int) := by rw [wrap_i64 (by omega) (by omega)]; omega
    refine ⟨fun j => j = w3.heap.size, by omega, by omega, by omega, by omega, ((min i (k - i) : Nat) : Int), w8, ?_, u8, ?_⟩
    · have := hr8
      simpa [Addr.add, show i ≠ 0 by omega] using this
    · rw [e4]
      exact ⟨⟨i + min i (k - i), rfl, by omega, fun h => by omega, b8, (x6.trans q7.ext).fresh u8 (by rintro j rfl; omega)⟩, by dsimp only; omega⟩
  have hik : i = k := by omega
  subst hik
  refine ⟨⟨some ⟨w3.heap.size, 0, none⟩, i, i⟩, rfl, rfl, ?_, x6⟩
  have := Own.of_blk (s := ⟨some ⟨w3.heap.size, 0, none⟩, i, i⟩) (z := 1) b6 (Nat.le_refl _) rfl (Nat.le_refl _) (by unfold maxLen; simp; omega) (by rw [rowU_length (Nat.le_refl _), Nat.mul_one])
  rw [iv_replicate]
  have e5 : List.take (i * 1) (rowU v i i) = List.replicate i (.int .i64 v) := by rw [Nat.mul_one]; unfold rowU; exact List.take_left' (by simp)
  dsimp only at this
  rwa [e5] at this
/-- how many places more -/
def more (l : Int) : Nat := (if 32 < if l < 0 then 0 else l then 32 else if l < 0 then 0 else l).toNat
theorem more_le (l : Int) : more l ≤ 32 := by unfold more; split <;> (try split) <;> omega
theorem entry_spec {p : Sl} {xs : List Int} {l : Int} (hp : Rd w 1 p (iv xs)) (hm : xs.length ≤ 17592186044000) :
    Calls Tryd.prog 23 #[.slice p.a p.n p.c, .int .i64 l] w fun e w' => ∃ s : Sl, e = .returned (frV s ⟨none, 0, 0⟩) ∧ Own w' w.heap.size 3 1 s (iv (xs ++ List.replicate (more l) (-1))) ∧ Ext w w' := by
  refine vc_23 _ _ _ _ ?_
  have hn := hp.leni
  simp only [eq_self, false_or, or_false, true_and, and_true, decide_eq_true_eq, decide_eq_false_iff_not, gd_st, gd_sf, exists_eq_left', exists_eq_left, Option.some.injEq, Sl.eta, Nat.reduceLeDiff, Int.reduceLE, Int.reduceLT, Int.reduceEq, Int.reduceNe, Nat.reduceMul, Nat.reduceAdd, Nat.reduceSub, Int.toNat_natCast, beq_iff_eq, bne_iff_ne, beq_eq_false_iff_ne, bne_eq_false_iff_eq, pick_and, pick_or, Bool.and_eq_true, Bool.or_eq_true, Bool.and_eq_false_iff, Bool.or_eq_false_iff, ne_eq, not_false_eq_true, Bool.not_eq_true', Bool.not_eq_false', reduceCtorEq, Nat.le_refl, Nat.zero_mul, Nat.mul_one, Nat.zero_add, Int.reduceToNat, ones, one, add_mk, Decidable.not_not, cond_true, cond_false, true_implies, false_implies, implies_true, Bool.not_true, Bool.not_false]
  intro w1 n1 w2 n2
  have x2 := n1.ext.trans n2.ext
  have z1 := n1.size; have z2 := n2.size
  have hl := more_le l
  have em : (if 32 < if l < 0 then (0 : Int) else l then (32 : Int) else if l < 0 then 0 else l) = ((more l : Nat) : Int) := by unfold more; split <;> (try split) <;> omega
  rw [em]
  have rd1 : Rd w2 1 ⟨some ⟨w1.heap.size, 0, none⟩, 1, 1⟩ (iv [-1]) := (Blk.new n2).rd (z := 1) (o := 0) (n := 1) (c := 1) (by simp)
  refine ⟨(repeat_spec rd1 (by omega)).mono ?_⟩
  rintro e w3 ⟨r, rfl, hr, o3, x3⟩
  have x03 := x2.trans x3
  refine ⟨r, rfl, by simp [len', wr, rep], fun w4 n4 => ?_⟩
  have x04 := x03.trans n4.ext
  have rd4 : Rd w4 1 ⟨some ⟨w3.heap.size, 0, none⟩, 2, 2⟩ (slV [p, r]) := (Blk.new n4).rd (z := 1) (o := 0) (n := 2) (c := 2) (by simp)
  refine ⟨(concatI_spec (Vs := [iv xs, iv (List.replicate (more l) (-1))]) rd4 ?_ rfl (by simp [sumN]; omega) (by simp)).mono ?_⟩
  · intro k c hk
    match k, hk with
    | 0, hk => cases hk; exact ⟨_, rfl, hp.ext x04, iv_ones _⟩
    | 1, hk => cases hk; exact ⟨_, rfl, o3.rd.ext n4.ext, iv_ones _⟩
  rintro e w5 ⟨s, rfl, o5, x5⟩
  have b5 : FB w5 w.heap.size ⟨none, 0, 0⟩ ⟨none, 0, 0⟩ := (Blk.new n1).ext (((n2.ext.trans x3).trans n4.ext).trans x5)
  refine ⟨s, rfl, by simp [len', wr, rep], b5.canSetN 0 2 (by simp), fun w6 s6 => ?_⟩
  have b6 : FB w6 w.heap.size s ⟨none, 0, 0⟩ := FB.set b5 s6
  have z04 := x04.size
  refine ⟨s, ⟨none, 0, 0⟩, rfl, ⟨b6.cell 0, b6.cell 1⟩, s, rfl, ?_, (x04.trans x5).fresh s6.upd (by rintro i rfl; exact Nat.le_refl _)⟩
  have := (o5.upd s6.upd (own_blk_ne o5 b5 (by decide))).mono z04
  rw [iv_append]
  simpa using this
theorem copy_spec {f0 f1 : Sl} {xs ys : List Int} (h : Fr2 w f0 f1 xs ys) :
    Calls Tryd.prog 24 #[frV f0 f1] w fun e w' => ∃ s t : Sl, e = .returned (frV s t) ∧ Own w' w.heap.size 3 1 s (iv xs) ∧ Own w' w.heap.size 3 1 t (iv ys) ∧ Apart s t ∧ Ext w w' := by
  refine vc_24 _ _ _ _ ?_
  have l0 := h.a.leni; have l1 := h.b.leni
  have hm := h.m; have hk := h.k
  simp only [eq_self, false_or, or_false, true_and, and_true, decide_eq_true_eq, decide_eq_false_iff_not, gd_st, gd_sf, exists_eq_left', exists_eq_left, Option.some.injEq, Sl.eta, Nat.reduceLeDiff, Int.reduceLE, Int.reduceLT, Int.reduceEq, Int.reduceNe, Nat.reduceMul, Nat.reduceAdd, Nat.reduceSub, Int.toNat_natCast, beq_iff_eq, bne_iff_ne, beq_eq_false_iff_ne, bne_eq_false_iff_eq, pick_and, pick_or, Bool.and_eq_true, Bool.or_eq_true, Bool.and_eq_false_iff, Bool.or_eq_false_iff, ne_eq, not_false_eq_true, Bool.not_eq_true', Bool.not_eq_false', reduceCtorEq, Nat.le_refl, Nat.zero_mul, Nat.mul_one, Nat.zero_add, Int.reduceToNat, ones, one, add_mk, Decidable.not_not, cond_true, cond_false, true_implies, false_implies, implies_true, Bool.not_true, Bool.not_false]
  intro w1 n1 w2 n2 w3 q3
  have x3 := (n1.ext.trans n2.ext).trans q3.ext
  have z1 := n1.size; have z2 := n2.size
  have f3 : FB w3 w.heap.size f0 f1 := (Blk.new n1).ext (n2.ext.trans q3.ext)
  refine ⟨fun _ => False, f0, fun v u => (f3.ext u).cell 0, f1, fun v u => (f3.ext u).cell 1, ⟨(clone_spec (h.a.ext x3) (by omega)).mono ?_⟩⟩
  rintro e w4 ⟨s, rfl, hs, o4, x4⟩
  refine ⟨s, rfl, x4, ⟨(clone_spec ((h.b.ext x3).ext x4) (by omega)).mono ?_⟩⟩
  rintro e w5 ⟨t, rfl, ht, o5, x5⟩
  have x35 := x4.trans x5
  have b5 : FB w5 w1.heap.size ⟨none, 0, 0⟩ ⟨none, 0, 0⟩ := (Blk.new n2).ext (q3.ext.trans x35)
  refine ⟨t, rfl, by simp [len', wr], by simp [len', wr], b5.canSetN 0 2 (by simp), fun w6 s6 => ?_⟩
  have b6 : FB w6 w1.heap.size s t := FB.set b5 s6
  have z3 := x3.size; have z4 := x4.size
  have os := (o4.ext x5).upd s6.upd (own_blk_ne (o4.ext x5) b5 (by decide))
  have ot := o5.upd s6.upd (own_blk_ne o5 b5 (by decide))
  refine ⟨s, t, rfl, ⟨b6.cell 0, b6.cell 1⟩, s, t, rfl, os.mono z3, ot.mono (by omega), fun p q hp hq he => ?_, (x3.trans x35).fresh s6.upd (by rintro i rfl; dsimp only; omega)⟩
  have h1 := (o4.base p hp).2; have h2 := (o5.base q hq).1; omega
theorem rentry_spec {p : Sl} {xs : List Int} {l : Int} (hp : Rd w 1 p (iv xs)) (hm : xs.length ≤ 17592186043905) :
    Calls Tryd.prog 25 #[.slice p.a p.n p.c, .int .i64 l] w fun e w' => ∃ s : Sl, e = .returned (frV s ⟨none, 0, 0⟩) ∧ Rd w' 1 s (iv (xs ++ List.replicate (more l) (-1))) ∧ Ext w w' := by
  refine vc_25 _ _ _ _ ?_
  have hn := hp.leni
  simp only [eq_self, false_or, or_false, true_and, and_true, decide_eq_true_eq, decide_eq_false_iff_not, gd_st, gd_sf, exists_eq_left', exists_eq_left, Option.some.injEq, Sl.eta, Nat.reduceLeDiff, Int.reduceLE, Int.reduceLT, Int.reduceEq, Int.reduceNe, Nat.reduceMul, Nat.reduceAdd, Nat.reduceSub, Int.toNat_natCast, beq_iff_eq, bne_iff_ne, beq_eq_false_iff_ne, bne_eq_false_iff_eq, pick_and, pick_or, Bool.and_eq_true, Bool.or_eq_true, Bool.and_eq_false_iff, Bool.or_eq_false_iff, ne_eq, not_false_eq_true, Bool.not_eq_true', Bool.not_eq_false', reduceCtorEq, Nat.le_refl, Nat.zero_mul, Nat.mul_one, Nat.zero_add, Int.reduceToNat, ones, one, add_mk, Decidable.not_not, cond_true, cond_false, true_implies, false_implies, implies_true, Bool.not_true, Bool.not_false]
  intro w1 n1 w2 n2
  have x2 := n1.ext.trans n2.ext
  have z1 := n1.size; have z2 := n2.size
  have hl := more_le l
  have f2 : FB w2 w.heap.size ⟨none, 0, 0⟩ ⟨none, 0, 0⟩ := (Blk.new n1).ext n2.ext
  have g2 : FB w2 w1.heap.size ⟨none, 0, 0⟩ ⟨none, 0, 0⟩ := Blk.new n2
  obtain ⟨r3, w3, hr3, hn3, o3, u3, c3⟩ := (Own.nil w2 w2.heap.size 3 1).append (t := 22) (ty := 22) tab_ok (by rfl) (by rfl) (by decide) (hp.ext x2) (iv_ones _) (by dsimp only; omega) (by dsimp only; omega) (Nat.le_refl _)
  have x23 : Ext w2 w3 := (Ext.refl w2).fresh u3 (by rintro i ⟨q, hq, rfl⟩; cases hq)
  have f3 := f2.ext x23; have g3 := g2.ext x23
  refine ⟨⟨none, 0, 0⟩, g2.cell 0, r3, w3, hr3, g3.canSet 0 (by simp), fun w4 s4 => ?_⟩
  have g4 : FB w4 w1.heap.size r3 ⟨none, 0, 0⟩ := s4.blk1 g3
  have f4 := f3.upd s4.upd (by dsimp only; omega)
  have o4 := o3.upd s4.upd (own_blk_ne o3 g3 (by decide))
  have x24 : Ext w w4 := (x2.trans x23).fresh s4.upd (by rintro i rfl; dsimp only; omega)
  have hmm : ∀ i : Nat, (i : Int) < l → (i : Int) < 32 → i < more l := by intro i h1 h2; unfold more; split <;> (try split) <;> omega
  have hm1 : ∀ i : Nat, ¬ (i : Int) < l → i ≤ more l → i = more l := by intro i h1 h2; unfold more at *; split at h2 <;> (try split at h2) <;> split <;> (try split) <;> omega
  refine ⟨fun n w' => ∃ (i : Nat) (c : Sl), n = i ∧ i ≤ more l ∧ FB w' w1.heap.size c ⟨none, 0, 0⟩ ∧ FB w' w.heap.size ⟨none, 0, 0⟩ ⟨none, 0, 0⟩ ∧ Own w' w2.heap.size 3 1 c (iv (xs ++ List.replicate i (-1))) ∧ Ext w w', fun n _ => (32 - n).toNat,
    ⟨0, r3, rfl, Nat.zero_le _, g4, f4, by rw [List.replicate_zero, List.append_nil]; exact o4, x24⟩, ?_⟩
  rintro _ n w5 ⟨i, c, rfl, hi, g5, f5, o5, x5⟩
  have ei : IntKind.i64.wrap ((i : Int) + 1) = ((i + 1 : Nat) : Int) := by rw [wrap_i64 (by omega) (by omega)]; omega
  rw [ei]
  have z5 := x5.size
  have hb5 : w2.heap.size ≤ w5.heap.size := by have := g5.lt; omega
  have fin : i = more l → ∃ s s_2 : Sl, len' [Value.slice s.a s.n s.c, .slice s_2.a s_2.n s_2.c] = 2 ∧ (w5.cell? ⟨w1.heap.size, 0, none⟩ = some (.slice s.a s.n s.c) ∧ w5.cell? ⟨w1.heap.size, 1, none⟩ = some (.slice s_2.a s_2.n s_2.c)) ∧ len' [Value.slice s.a s.n s.c, .slice s_2.a s_2.n s_2.c] = 2 ∧ CanSet w5 ⟨w.heap.size, 0, none⟩ 2 ∧
      ∀ w1, SetW w5 ⟨w.heap.size, 0, none⟩ [.slice s.a s.n s.c, .slice s_2.a s_2.n s_2.c] w1 → ∃ s s_3 : Sl, len' [Value.slice s.a s.n s.c, .slice s_3.a s_3.n s_3.c] = 2 ∧ (w1.cell? ⟨w.heap.size, 0, none⟩ = some (.slice s.a s.n s.c) ∧ w1.cell? ⟨w.heap.size, 1, none⟩ = some (.slice s_3.a s_3.n s_3.c)) ∧
        ∃ s' : Sl, Ending.returned (.agg #[.slice s.a s.n s.c, .slice s_3.a s_3.n s_3.c]) = .returned (frV s' ⟨none, 0, 0⟩) ∧ Rd w1 1 s' (iv (xs ++ List.replicate (more l) (-1))) ∧ Ext w w1 := by
    rintro rfl
    refine ⟨c, ⟨none, 0, 0⟩, rfl, ⟨g5.cell 0, g5.cell 1⟩, rfl, f5.canSetN 0 2 (by simp), fun w6 s6 => ?_⟩
    have f6 : FB w6 w.heap.size c ⟨none, 0, 0⟩ := FB.set f5 s6
    exact ⟨c, ⟨none, 0, 0⟩, rfl, ⟨f6.cell 0, f6.cell 1⟩, c, rfl, (o5.upd s6.upd (own_blk_ne o5 f5 (by decide))).rd, x5.fresh s6.upd (by rintro i rfl; exact Nat.le_refl _)⟩
  refine ⟨fun hlt => ⟨fun h32 => ⟨c, g5.cell 0, fun w6 n6 => ?_⟩, fun h32 => fin (by omega)⟩, fun hge => fin (hm1 i hge hi)⟩
  have hlt' := hmm i hlt h32
  obtain ⟨r7, w7, hr7, hn7, o7, u7, c7⟩ := push1 o5 hb5 (by rw [List.length_append, List.length_replicate]; omega) n6
  have keep : ∀ {g T : Nat} {cs : List Value}, Blk w5 g T cs → T ≠ 3 → Blk w7 g T cs := fun b hT => b.upd u7 (by rintro ⟨q, hq, he⟩; exact own_blk_ne o5 b (fun h => hT h.symm) q hq he.symm)
  have g7 := keep g5 (by decide); have f7 := keep f5 (by decide)
  have x7 : Ext w w7 := x5.fresh u7 (by rintro i ⟨q, hq, rfl⟩; have := (o5.base q hq).1; omega)
  refine ⟨r7, w7, hr7, g7.canSet 0 (by simp), fun w8 s8 => ⟨⟨i + 1, r7, rfl, by omega, s8.blk1 g7, f7.upd s8.upd (by dsimp only; omega), ?_, x7.fresh s8.upd (by rintro i rfl; dsimp only; omega)⟩, by dsimp only; omega⟩⟩
  rw [List.replicate_succ', ← List.append_assoc]
  exact o7.upd s8.upd (own_blk_ne o7 g7 (by decide))
theorem rsame2_spec {a0 a1 b0 b1 : Sl} {xs ys xs' ys' : List Int} (ha : Rd w 1 a0 (iv xs)) (ha' : Rd w 1 a1 (iv ys)) (hb : Rd w 1 b0 (iv xs')) (hb' : Rd w 1 b1 (iv ys')) (hm : xs.length ≤ 17592186044000) (hk : ys.length ≤ 17592186044000) :
    Calls Tryd.prog 16 #[frV a0 a1, frV b0 b1] w fun e w' => e = .returned (.bool (decide (xs = xs' ∧ ys = ys'))) ∧ Ext w w' := by
  refine vc_16 _ _ _ _ _ _ ?_
  simp only [eq_self, false_or, or_false, true_and, and_true, decide_eq_true_eq, decide_eq_false_iff_not, gd_st, gd_sf, exists_eq_left', exists_eq_left, Option.some.injEq, Sl.eta, Nat.reduceLeDiff, Int.reduceLE, Int.reduceLT, Int.reduceEq, Int.reduceNe, Nat.reduceMul, Nat.reduceAdd, Nat.reduceSub, Int.toNat_natCast, beq_iff_eq, bne_iff_ne, beq_eq_false_iff_ne, bne_eq_false_iff_eq, pick_and, pick_or, Bool.and_eq_true, Bool.or_eq_true, Bool.and_eq_false_iff, Bool.or_eq_false_iff, ne_eq, not_false_eq_true, Bool.not_eq_true', Bool.not_eq_false', reduceCtorEq, Nat.le_refl, Nat.zero_mul, Nat.mul_one, Nat.zero_add, Int.reduceToNat, ones, one, add_mk, Decidable.not_not, cond_true, cond_false, true_implies, false_implies, implies_true, Bool.not_true, Bool.not_false]
  intro w1 n1 w2 n2
  have x2 := n1.ext.trans n2.ext
  have f2 : FB w2 w.heap.size a0 a1 := (Blk.new n1).ext n2.ext
  have g2 : FB w2 w1.heap.size b0 b1 := Blk.new n2
  refine ⟨a0, f2.cell 0, b0, g2.cell 0, ⟨(requal_spec (ha.ext x2) (hb.ext x2) (by omega)).mono ?_⟩⟩
  rintro e w3 ⟨rfl, x3⟩
  have x03 := x2.trans x3
  refine ⟨_, rfl, fun h1 => ⟨a1, (f2.ext x3).cell 1, b1, (g2.ext x3).cell 1, ⟨(requal_spec (ha'.ext x03) (hb'.ext x03) (by omega)).mono ?_⟩⟩, fun h1 => ⟨rb (decide_eq_false fun hh => of_decide_eq_false h1 hh.1).symm, x03⟩⟩
  rintro e w4 ⟨rfl, x4⟩
  refine ⟨_, rfl, rb ?_, x03.trans x4⟩
  rw [decide_eq_decide]
  exact ⟨fun e => ⟨of_decide_eq_true h1, e⟩, fun e => e.2⟩
end
end Go.Proofs.YtfppdkkbekkhbaaDoor.V
