/-
  Law StackPlays: a call, by both.
-/
import Derived.Test.YtodbmiflnellcaaPl1
namespace Go.Proofs.Ytodbmiflnellcaa.V
open Go Go.RowKit
set_option linter.unusedVariables false
set_option linter.unusedSimpArgs false

section
variable {w0 w : World} {g g' words : Nat} {F G : Nat → Prop} {L : List Fr}
/-- both stacks go on -/
def On (w0 w' : World) (g g' words : Nat) : Prop := ∃ F G L, Pair w0 w' g F g' G words L
theorem Pair.on {w1 w2 : World} {F' : Nat → Prop} {L' : List Fr} (P : Pair w0 w g F g' G words L) (u : Upd F w w1) (s : Stk w1 g F' words L') (hF : ∀ k, F' k → F k ∨ w.heap.size ≤ k) (l : Left w1 w2 g' G words L') : On w0 w2 g g' words := by
  obtain ⟨F', G', h⟩ := P.both u s hF l
  exact ⟨F', G', _, h⟩
theorem Pair.go (P : Pair w0 w g F g' G words L) : On w0 w g g' words := ⟨F, G, L, P⟩
set_option maxRecDepth 100000 in
theorem top_spec (o0 o1 o2 o3 kind : Int) (o4 : Nat) (P : Pair w0 w g F g' G words L) (hk : kind = 2 ∨ kind = 3 ∨ kind = 4 ∨ kind = 5 ∨ kind = 6 ∨ kind = 7 ∨ kind = 8) :
    Calls Try.prog 42 #[.pointer (some ⟨g, 0, none⟩), .pointer (some ⟨g', 0, none⟩), .agg #[.int .i64 o0, .int .i64 o1, .int .i64 o2, .int .i64 o3, .int .u64 (o4 : Nat)], .int .i64 kind] w fun e w' =>
      e = .returned (.bool true) ∧ On w0 w' g g' words := by
  refine vc_42 _ _ _ _ _ _ _ _ _ _ ?_
  simp only [eq_self, true_and, and_true, decide_eq_true_eq, decide_eq_false_iff_not, gd_st, gd_sf, exists_eq_left', exists_eq_left, Option.some.injEq, Sl.eta, Nat.reduceLeDiff, Int.reduceLE, Int.reduceLT, Int.reduceEq, Int.reduceNe, Nat.reduceMul, Nat.reduceAdd, Nat.reduceSub, Int.toNat_natCast, beq_iff_eq, bne_iff_ne, beq_eq_false_iff_ne, bne_eq_false_iff_eq, pick_and, pick_or, Bool.and_eq_true, Bool.or_eq_true, Bool.and_eq_false_iff, Bool.or_eq_false_iff, ne_eq, not_false_eq_true, Bool.not_eq_true', Bool.not_eq_false', reduceCtorEq, Nat.le_refl, Nat.zero_mul, Nat.mul_one, Nat.zero_add, Int.reduceToNat, ones, one, add_mk, Decidable.not_not, cond_true, cond_false, true_implies, false_implies, implies_true, Bool.not_true, Bool.not_false]
  intro w1 n1
  have hb1 := Blk.new n1
  simp only [] at hb1
  have P1 := P.qt n1.ext
  have hT : ¬ F w.heap.size := fun h => Nat.lt_irrefl _ (P.s.lt _ h)
  have hT2 : ¬ G w.heap.size := fun h => Nat.lt_irrefl _ (P.r.lt _ h)
  refine ⟨fun k2 w2 q2 => ?_, fun k2 => ⟨fun k3 => ?_, fun k3 => ⟨fun k4 w2 q2 => ?_, fun k4 => ⟨fun b w' => w' = w1 ∧ b = decide (kind = 5 ∨ kind = 6), ⟨fun k5 => ⟨rfl, by simp [k5]⟩, fun k5 => ⟨rfl, by simp [k5]; rfl⟩⟩, ?_⟩⟩⟩⟩
  · have P2 := P1.qt q2.ext
    have hb2 := hb1.ext q2.ext
    refine ⟨F, o1, fun w3 u => (hb2.upd u hT).cell 1, o1, fun w3 u => (hb2.upd u hT).cell 1, ⟨(goto_spec o1 P2.s).mono ?_⟩⟩
    rintro e w3 ⟨rfl, s3, u3⟩
    refine ⟨_, rfl, u3, ⟨(rgoto_spec o1 (P2.ref u3)).mono ?_⟩⟩
    rintro e w4 ⟨rfl, l4⟩
    exact ⟨_, rfl, by rw [beq_self_eq_true], P2.on u3 s3 (fun _ => .inl) l4⟩
  · simp only [hb1.cell, List.getElem?_cons_zero, List.getElem?_cons_succ, ex_sl, Value.int.injEq, Value.bool.injEq, Value.pointer.injEq, Value.string.injEq, eq_self, true_and, and_true, decide_eq_true_eq, decide_eq_false_iff_not, gd_st, gd_sf, exists_eq_left', exists_eq_left, Option.some.injEq, Sl.eta, Nat.reduceLeDiff, Int.reduceLE, Int.reduceLT, Int.reduceEq, Int.reduceNe, Nat.reduceMul, Nat.reduceAdd, Nat.reduceSub, Int.toNat_natCast, beq_iff_eq, bne_iff_ne, beq_eq_false_iff_ne, bne_eq_false_iff_eq, pick_and, pick_or, Bool.and_eq_true, Bool.or_eq_true, Bool.and_eq_false_iff, Bool.or_eq_false_iff, ne_eq, not_false_eq_true, Bool.not_eq_true', Bool.not_eq_false', reduceCtorEq, Nat.le_refl, Nat.zero_mul, Nat.mul_one, Nat.zero_add, Int.reduceToNat, ones, one, add_mk, Decidable.not_not, cond_true, cond_false, true_implies, false_implies, implies_true, Bool.not_true, Bool.not_false]
    refine ⟨(get_spec o1 P1.s).mono ?_⟩
    rintro e w2 ⟨rfl, q2⟩
    have P2 := P1.qt q2.ext
    have hb2 := hb1.ext q2.ext
    refine ⟨_, _, rfl, ?_⟩
    simp only [hb2.cell, List.getElem?_cons_zero, List.getElem?_cons_succ, ex_sl, Value.int.injEq, Value.bool.injEq, Value.pointer.injEq, Value.string.injEq, eq_self, true_and, and_true, decide_eq_true_eq, decide_eq_false_iff_not, gd_st, gd_sf, exists_eq_left', exists_eq_left, Option.some.injEq, Sl.eta, Nat.reduceLeDiff, Int.reduceLE, Int.reduceLT, Int.reduceEq, Int.reduceNe, Nat.reduceMul, Nat.reduceAdd, Nat.reduceSub, Int.toNat_natCast, beq_iff_eq, bne_iff_ne, beq_eq_false_iff_ne, bne_eq_false_iff_eq, pick_and, pick_or, Bool.and_eq_true, Bool.or_eq_true, Bool.and_eq_false_iff, Bool.or_eq_false_iff, ne_eq, not_false_eq_true, Bool.not_eq_true', Bool.not_eq_false', reduceCtorEq, Nat.le_refl, Nat.zero_mul, Nat.mul_one, Nat.zero_add, Int.reduceToNat, ones, one, add_mk, Decidable.not_not, cond_true, cond_false, true_implies, false_implies, implies_true, Bool.not_true, Bool.not_false]
    refine ⟨(rget_spec o1 P2.r).mono ?_⟩
    rintro e w3 ⟨rfl, x3⟩
    exact ⟨_, _, rfl, fun _ => ⟨by rw [beq_self_eq_true], (P2.qt x3).go⟩, fun h => absurd rfl h⟩
  · have P2 := P1.qt q2.ext
    have hb2 := hb1.ext q2.ext
    refine ⟨F, o1, fun w3 u => (hb2.upd u hT).cell 1, (o4 : Nat), fun w3 u => (hb2.upd u hT).cell 4, o1, fun w3 u => (hb2.upd u hT).cell 1, (o4 : Nat), fun w3 u => (hb2.upd u hT).cell 4, ⟨(set_spec o1 o4 P2.s).mono ?_⟩⟩
    rintro e w3 ⟨rfl, s3, u3⟩
    refine ⟨_, rfl, u3, ⟨(rset_spec o1 o4 (P2.ref u3)).mono ?_⟩⟩
    rintro e w4 ⟨rfl, l4⟩
    exact ⟨_, rfl, by rw [beq_self_eq_true], P2.on u3 s3 (fun _ => .inl) l4⟩
  · rintro _ b w' ⟨rfl, rfl⟩
    refine ⟨fun h56 w2 q2 => ?_, fun h56 => ⟨fun k7 => ⟨(pop_spec P1.s).mono ?_⟩, fun k7 => ?_⟩⟩
    · have P2 := P1.qt q2.ext
      have hb2 := hb1.ext q2.ext
      refine ⟨F, (o4 : Nat), fun w3 u => (hb2.upd u hT).cell 4, (o4 : Nat), fun w3 u => (hb2.upd u hT).cell 4, ⟨(push_spec o4 P2.s).mono ?_⟩⟩
      rintro e w3 ⟨rfl, s3, u3⟩
      refine ⟨_, rfl, u3, ⟨(rpush_spec o4 (P2.ref u3)).mono ?_⟩⟩
      rintro e w4 ⟨rfl, l4⟩
      exact ⟨_, rfl, by rw [beq_self_eq_true], P2.on u3 s3 (fun _ => .inl) l4⟩
    · rintro e w3 ⟨rfl, s3, u3⟩
      refine ⟨_, _, rfl, ⟨(rpop_spec (P1.ref u3)).mono ?_⟩⟩
      rintro e w4 ⟨rfl, l4⟩
      exact ⟨_, _, rfl, fun _ => ⟨by rw [beq_self_eq_true], P1.on u3 s3 (fun _ => .inl) l4⟩, fun h => absurd rfl h⟩
    · simp only [hb1.cell, List.getElem?_cons_zero, List.getElem?_cons_succ, ex_sl, Value.int.injEq, Value.bool.injEq, Value.pointer.injEq, Value.string.injEq, eq_self, true_and, and_true, decide_eq_true_eq, decide_eq_false_iff_not, gd_st, gd_sf, exists_eq_left', exists_eq_left, Option.some.injEq, Sl.eta, Nat.reduceLeDiff, Int.reduceLE, Int.reduceLT, Int.reduceEq, Int.reduceNe, Nat.reduceMul, Nat.reduceAdd, Nat.reduceSub, Int.toNat_natCast, beq_iff_eq, bne_iff_ne, beq_eq_false_iff_ne, bne_eq_false_iff_eq, pick_and, pick_or, Bool.and_eq_true, Bool.or_eq_true, Bool.and_eq_false_iff, Bool.or_eq_false_iff, ne_eq, not_false_eq_true, Bool.not_eq_true', Bool.not_eq_false', reduceCtorEq, Nat.le_refl, Nat.zero_mul, Nat.mul_one, Nat.zero_add, Int.reduceToNat, ones, one, add_mk, Decidable.not_not, cond_true, cond_false, true_implies, false_implies, implies_true, Bool.not_true, Bool.not_false]
      refine ⟨(peek_spec o1 P1.s).mono ?_⟩
      rintro e w2 ⟨rfl, x2⟩
      have P2 := P1.qt x2
      have hb2 := hb1.ext x2
      refine ⟨_, _, rfl, ?_⟩
      simp only [hb2.cell, List.getElem?_cons_zero, List.getElem?_cons_succ, ex_sl, Value.int.injEq, Value.bool.injEq, Value.pointer.injEq, Value.string.injEq, eq_self, true_and, and_true, decide_eq_true_eq, decide_eq_false_iff_not, gd_st, gd_sf, exists_eq_left', exists_eq_left, Option.some.injEq, Sl.eta, Nat.reduceLeDiff, Int.reduceLE, Int.reduceLT, Int.reduceEq, Int.reduceNe, Nat.reduceMul, Nat.reduceAdd, Nat.reduceSub, Int.toNat_natCast, beq_iff_eq, bne_iff_ne, beq_eq_false_iff_ne, bne_eq_false_iff_eq, pick_and, pick_or, Bool.and_eq_true, Bool.or_eq_true, Bool.and_eq_false_iff, Bool.or_eq_false_iff, ne_eq, not_false_eq_true, Bool.not_eq_true', Bool.not_eq_false', reduceCtorEq, Nat.le_refl, Nat.zero_mul, Nat.mul_one, Nat.zero_add, Int.reduceToNat, ones, one, add_mk, Decidable.not_not, cond_true, cond_false, true_implies, false_implies, implies_true, Bool.not_true, Bool.not_false]
      refine ⟨(rpeek_spec o1 P2.r).mono ?_⟩
      rintro e w3 ⟨rfl, x3⟩
      exact ⟨_, _, rfl, fun _ => ⟨by rw [beq_self_eq_true], (P2.qt x3).go⟩, fun h => absurd rfl h⟩
set_option maxRecDepth 100000 in
theorem step_spec (o0 o1 o2 o3 : Int) (o4 : Nat) (r0 : -9223372036854775808 ≤ o0) (r1 : o0 ≤ 9223372036854775807) (P : Pair w0 w g F g' G words L) :
    Calls Try.prog 26 #[.pointer (some ⟨g, 0, none⟩), .pointer (some ⟨g', 0, none⟩), .agg #[.int .i64 o0, .int .i64 o1, .int .i64 o2, .int .i64 o3, .int .u64 (o4 : Nat)]] w fun e w' =>
      e = .returned (.bool true) ∧ On w0 w' g g' words := by
  refine vc_26 _ _ _ _ _ _ _ _ _ ?_
  simp only [eq_self, true_and, and_true, decide_eq_true_eq, decide_eq_false_iff_not, gd_st, gd_sf, exists_eq_left', exists_eq_left, Option.some.injEq, Sl.eta, Nat.reduceLeDiff, Int.reduceLE, Int.reduceLT, Int.reduceEq, Int.reduceNe, Nat.reduceMul, Nat.reduceAdd, Nat.reduceSub, Int.toNat_natCast, beq_iff_eq, bne_iff_ne, beq_eq_false_iff_ne, bne_eq_false_iff_eq, pick_and, pick_or, Bool.and_eq_true, Bool.or_eq_true, Bool.and_eq_false_iff, Bool.or_eq_false_iff, ne_eq, not_false_eq_true, Bool.not_eq_true', Bool.not_eq_false', reduceCtorEq, Nat.le_refl, Nat.zero_mul, Nat.mul_one, Nat.zero_add, Int.reduceToNat, ones, one, add_mk, Decidable.not_not, cond_true, cond_false, true_implies, false_implies, implies_true, Bool.not_true, Bool.not_false]
  intro w1 n1
  have hb1 := Blk.new n1
  simp only [] at hb1
  have P1 := P.qt n1.ext
  have hT : ¬ F w.heap.size := fun h => Nat.lt_irrefl _ (P.s.lt _ h)
  simp only [hb1.cell, List.getElem?_cons_zero, List.getElem?_cons_succ, ex_sl, Value.int.injEq, Value.bool.injEq, Value.pointer.injEq, Value.string.injEq, eq_self, true_and, and_true, decide_eq_true_eq, decide_eq_false_iff_not, gd_st, gd_sf, exists_eq_left', exists_eq_left, Option.some.injEq, Sl.eta, Nat.reduceLeDiff, Int.reduceLE, Int.reduceLT, Int.reduceEq, Int.reduceNe, Nat.reduceMul, Nat.reduceAdd, Nat.reduceSub, Int.toNat_natCast, beq_iff_eq, bne_iff_ne, beq_eq_false_iff_ne, bne_eq_false_iff_eq, pick_and, pick_or, Bool.and_eq_true, Bool.or_eq_true, Bool.and_eq_false_iff, Bool.or_eq_false_iff, ne_eq, not_false_eq_true, Bool.not_eq_true', Bool.not_eq_false', reduceCtorEq, Nat.le_refl, Nat.zero_mul, Nat.mul_one, Nat.zero_add, Int.reduceToNat, ones, one, add_mk, Decidable.not_not, cond_true, cond_false, true_implies, false_implies, implies_true, Bool.not_true, Bool.not_false]
  refine ⟨(pick_spec o0 14 w1 r0 r1 (by omega)).mono ?_⟩
  rintro e w1' ⟨rfl, rfl⟩
  have pr := pk_lt (c := o0) (n := 14) (by omega)
  generalize pk o0 14 = kind at pr
  refine ⟨_, rfl, ?_⟩
  simp only [hb1.cell, List.getElem?_cons_zero, List.getElem?_cons_succ, ex_sl, Value.int.injEq, Value.bool.injEq, Value.pointer.injEq, Value.string.injEq, eq_self, true_and, and_true, decide_eq_true_eq, decide_eq_false_iff_not, gd_st, gd_sf, exists_eq_left', exists_eq_left, Option.some.injEq, Sl.eta, Nat.reduceLeDiff, Int.reduceLE, Int.reduceLT, Int.reduceEq, Int.reduceNe, Nat.reduceMul, Nat.reduceAdd, Nat.reduceSub, Int.toNat_natCast, beq_iff_eq, bne_iff_ne, beq_eq_false_iff_ne, bne_eq_false_iff_eq, pick_and, pick_or, Bool.and_eq_true, Bool.or_eq_true, Bool.and_eq_false_iff, Bool.or_eq_false_iff, ne_eq, not_false_eq_true, Bool.not_eq_true', Bool.not_eq_false', reduceCtorEq, Nat.le_refl, Nat.zero_mul, Nat.mul_one, Nat.zero_add, Int.reduceToNat, ones, one, add_mk, Decidable.not_not, cond_true, cond_false, true_implies, false_implies, implies_true, Bool.not_true, Bool.not_false]
  refine ⟨fun k0 w2 q2 => ?_, fun k0 => ⟨fun k1 => ⟨(leave_spec P1.s).mono ?_⟩, fun k1 => ⟨fun k9 => ⟨(lawframe_spec o1 P1).mono ?_⟩, fun k9 => ⟨fun k10 => ⟨(slot_spec o1 o2 P1.s).mono ?_⟩, fun k10 => ⟨fun k11 w2 q2 => ?_, fun k11 => ⟨fun k12 => ?_, fun k12 => ⟨fun k13 w2 q2 => ?_, fun k13 => ?_⟩⟩⟩⟩⟩⟩⟩
  · have P2 := P1.qt q2.ext
    have hb2 := hb1.ext q2.ext
    refine ⟨F, o1, fun w3 u => (hb2.upd u hT).cell 1, o2, fun w3 u => (hb2.upd u hT).cell 2, o3, fun w3 u => (hb2.upd u hT).cell 3, o1, fun w3 u => (hb2.upd u hT).cell 1, o2, fun w3 u => (hb2.upd u hT).cell 2, o3, fun w3 u => (hb2.upd u hT).cell 3, ⟨(enter_spec o1 o2 o3 P2.s).mono ?_⟩⟩
    rintro e w3 ⟨rfl, u3, F3, s3, hF3⟩
    refine ⟨_, rfl, u3, ⟨(renter_spec o1 o2 o3 (P2.ref u3)).mono ?_⟩⟩
    rintro e w4 ⟨rfl, l4⟩
    exact ⟨_, rfl, by rw [beq_self_eq_true], P2.on u3 s3 hF3 l4⟩
  · rintro e w3 ⟨rfl, s3, u3⟩
    refine ⟨_, rfl, ⟨(rleave_spec (P1.ref u3)).mono ?_⟩⟩
    rintro e w4 ⟨rfl, l4⟩
    exact ⟨_, rfl, by rw [beq_self_eq_true], P1.on u3 s3 (fun _ => .inl) l4⟩
  · rintro e w3 ⟨rfl, x3⟩
    exact ⟨_, rfl, rfl, (P1.qt x3).go⟩
  · rintro e w2 ⟨rfl, x2⟩
    have P2 := P1.qt x2
    have hb2 := hb1.ext x2
    refine ⟨_, _, rfl, ?_⟩
    simp only [hb2.cell, List.getElem?_cons_zero, List.getElem?_cons_succ, ex_sl, Value.int.injEq, Value.bool.injEq, Value.pointer.injEq, Value.string.injEq, eq_self, true_and, and_true, decide_eq_true_eq, decide_eq_false_iff_not, gd_st, gd_sf, exists_eq_left', exists_eq_left, Option.some.injEq, Sl.eta, Nat.reduceLeDiff, Int.reduceLE, Int.reduceLT, Int.reduceEq, Int.reduceNe, Nat.reduceMul, Nat.reduceAdd, Nat.reduceSub, Int.toNat_natCast, beq_iff_eq, bne_iff_ne, beq_eq_false_iff_ne, bne_eq_false_iff_eq, pick_and, pick_or, Bool.and_eq_true, Bool.or_eq_true, Bool.and_eq_false_iff, Bool.or_eq_false_iff, ne_eq, not_false_eq_true, Bool.not_eq_true', Bool.not_eq_false', reduceCtorEq, Nat.le_refl, Nat.zero_mul, Nat.mul_one, Nat.zero_add, Int.reduceToNat, ones, one, add_mk, Decidable.not_not, cond_true, cond_false, true_implies, false_implies, implies_true, Bool.not_true, Bool.not_false]
    refine ⟨(rslot_spec o1 o2 P2.r).mono ?_⟩
    rintro e w3 ⟨rfl, x3⟩
    exact ⟨_, _, rfl, fun _ => ⟨by rw [beq_self_eq_true], (P2.qt x3).go⟩, fun h => absurd rfl h⟩
  · have P2 := P1.qt q2.ext
    have hb2 := hb1.ext q2.ext
    refine ⟨F, o1, fun w3 u => (hb2.upd u hT).cell 1, o2, fun w3 u => (hb2.upd u hT).cell 2, (o4 : Nat), fun w3 u => (hb2.upd u hT).cell 4, o1, fun w3 u => (hb2.upd u hT).cell 1, o2, fun w3 u => (hb2.upd u hT).cell 2, (o4 : Nat), fun w3 u => (hb2.upd u hT).cell 4, ⟨(setSlot_spec o1 o2 o4 P2.s).mono ?_⟩⟩
    rintro e w3 ⟨rfl, s3, u3⟩
    refine ⟨_, rfl, u3, ⟨(rsetSlot_spec o1 o2 o4 (P2.ref u3)).mono ?_⟩⟩
    rintro e w4 ⟨rfl, l4⟩
    exact ⟨_, rfl, by rw [beq_self_eq_true], P2.on u3 s3 (fun _ => .inl) l4⟩
  · -- Func, At, Height
    have tail : ∀ w2, Ext w1' w2 → CallW Try.prog 29 #[.pointer (some ⟨g, 0, none⟩)] w2 fun e w3 => ∃ n_2 : Int, e = .returned (.int .i64 n_2) ∧
        (n_2 = ((onTop L 0 fun f => (f.fn, f)).1 : Nat) → CallW Try.prog 40 #[.pointer (some ⟨g, 0, none⟩)] w3 fun e w4 => ∃ n : Int, e = .returned (.int .i64 n) ∧
          (n = ((onTop L 0 fun f => (f.at_, f)).1 : Nat) → CallW Try.prog 21 #[.pointer (some ⟨g, 0, none⟩)] w4 fun e w5 => ∃ n : Int, e = .returned (.int .i64 n) ∧
            CallW Try.prog 41 #[.pointer (some ⟨g', 0, none⟩)] w5 fun e w6 => ∃ n_3 : Int, e = .returned (.int .i64 n_3) ∧ Ending.returned (.bool (n == n_3)) = .returned (.bool true) ∧ On w0 w6 g g' words) ∧
          (¬n = ((onTop L 0 fun f => (f.at_, f)).1 : Nat) → Ending.returned (.bool false) = .returned (.bool true) ∧ On w0 w4 g g' words)) ∧
        (¬n_2 = ((onTop L 0 fun f => (f.fn, f)).1 : Nat) → Ending.returned (.bool false) = .returned (.bool true) ∧ On w0 w3 g g' words) := by
      intro w2 x2
      have P2 := P1.qt x2
      refine ⟨(func_spec P2.s).mono ?_⟩
      rintro e w3 ⟨rfl, q3⟩
      have P3 := P2.qt q3.ext
      refine ⟨_, rfl, fun _ => ⟨(at_spec P3.s).mono ?_⟩, fun h => absurd rfl h⟩
      rintro e w4 ⟨rfl, q4⟩
      have P4 := P3.qt q4.ext
      refine ⟨_, rfl, fun _ => ⟨(height_spec P4.s).mono ?_⟩, fun h => absurd rfl h⟩
      rintro e w5 ⟨rfl, q5⟩
      have P5 := P4.qt q5.ext
      refine ⟨_, rfl, ⟨(rheight_spec P5.r).mono ?_⟩⟩
      rintro e w6 ⟨rfl, x6⟩
      exact ⟨_, rfl, by rw [beq_self_eq_true], (P5.qt x6).go⟩
    obtain ⟨fs, Q, hQ, hQL⟩ := P1.r
    rcases qtop Q with rfl | ⟨A, t, rfl⟩
    · refine ⟨(rtop_out hQ.at_).mono ?_⟩
      rintro e w2 ⟨rfl, q2⟩
      refine ⟨_, rfl, fun n n_1 w' => w' = w2 ∧ n = ((onTop L 0 fun f => (f.fn, f)).1 : Nat) ∧ n_1 = ((onTop L 0 fun f => (f.at_, f)).1 : Nat), ⟨fun h => (by cases h), fun _ => ⟨rfl, by rw [← hQL]; rfl, by rw [← hQL]; rfl⟩⟩, ?_⟩
      rintro _ n m w' ⟨rfl, rfl, rfl⟩
      exact tail _ q2.ext
    · obtain ⟨r, hr, _⟩ := hQ.at_.base
      refine ⟨(rtop_in hQ.at_ hr).mono ?_⟩
      rintro e w2 ⟨rfl, q2⟩
      have h2 := (hQ.ext q2.ext).at_
      obtain ⟨r', hr', hc⟩ := h2.base
      rw [hr] at hr'; injection hr' with hr'; injection hr' with hr'; subst hr'
      refine ⟨_, rfl, fun n n_1 w' => w' = w2 ∧ n = ((onTop L 0 fun f => (f.fn, f)).1 : Nat) ∧ n_1 = ((onTop L 0 fun f => (f.at_, f)).1 : Nat), ⟨fun _ => ⟨_, rfl, (t.1.fn : Nat), ?_, _, rfl, (t.1.at_ : Nat), ?_, rfl, ?_, ?_⟩, fun h => (by cases h)⟩, ?_⟩
      · rw [add_mk]; exact hc 0 _ rfl
      · rw [add_mk]; exact hc 1 _ rfl
      · rw [← hQL, List.map_append, List.map_cons, List.map_nil, onTop_snoc]
      · rw [← hQL, List.map_append, List.map_cons, List.map_nil, onTop_snoc]
      · rintro _ n m w' ⟨rfl, rfl, rfl⟩
        exact tail _ q2.ext
  · have P2 := P1.qt q2.ext
    obtain ⟨fs, Q, hQ, hQL⟩ := P2.r
    have hQl : fs.n = L.length := by rw [← hQL, List.length_map, hQ.at_.len]
    have hb2 := hQ.at_.hd
    refine ⟨fun _ => False, fs, fun w3 u => (hb2.ext u).cell 1, ⟨(depth_spec P2.s).mono ?_⟩⟩
    rintro e w3 ⟨rfl, q3⟩
    have P3 := P2.qt q3.ext
    refine ⟨_, rfl, q3.ext, fun _ => ⟨(used_spec P3.s).mono ?_⟩, fun h => by omega⟩
    rintro e w4 ⟨rfl, q4⟩
    have P4 := P3.qt q4.ext
    refine ⟨_, rfl, q4.ext, ⟨(rused_spec P4.r).mono ?_⟩⟩
    rintro e w5 ⟨rfl, x5⟩
    exact ⟨_, rfl, by rw [beq_self_eq_true], (P4.qt x5).go⟩
  · refine ⟨o0, o1, o2, o3, (o4 : Nat), rfl, ⟨rfl, rfl, rfl, rfl, rfl⟩, ⟨(top_spec o0 o1 o2 o3 kind o4 P1 (by omega)).mono ?_⟩⟩
    rintro e w3 ⟨rfl, on⟩
    exact ⟨_, rfl, rfl, on⟩
end
end Go.Proofs.Ytodbmiflnellcaa.V
