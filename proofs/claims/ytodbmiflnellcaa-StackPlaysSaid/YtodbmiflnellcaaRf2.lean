/-
  The document's stack: its calls.
-/
import Derived.Test.YtodbmiflnellcaaRf1
namespace Go.Proofs.Ytodbmiflnellcaa.V
open Go Go.RowKit
set_option linter.unusedVariables false
set_option linter.unusedSimpArgs false

theorem qtop (Q : List Tr) : Q = [] ∨ ∃ A t, Q = A ++ [t] := by
  rcases List.eq_nil_or_concat Q with h | ⟨A, f, h⟩
  · exact .inl h
  · exact .inr ⟨A, f, by simpa using h⟩
theorem qsplit (Q : List Tr) (k : Int) : (k < 0 ∨ (Q.length : Int) ≤ k) ∨ ∃ A f C, Q = A ++ f :: C ∧ k = (A.length : Int) := by
  by_cases h : k < 0 ∨ (Q.length : Int) ≤ k
  · exact .inl h
  · right
    have hk : k.toNat < Q.length := by omega
    refine ⟨Q.take k.toNat, Q[k.toNat], Q.drop (k.toNat + 1), ?_, ?_⟩
    · rw [← List.drop_eq_getElem_cons hk, List.take_append_drop]
    · rw [List.length_take]; omega
section
variable {w w' w1 : World} {g words : Nat} {fs : Sl} {Q A C : List Tr} {t t' : Tr} {S G : Nat → Prop} {L : List Fr}
/-- what a call leaves -/
def Left (w w' : World) (g : Nat) (G : Nat → Prop) (words : Nat) (L : List Fr) : Prop := Upd G w w' ∧ ∃ G', Ref w' g G' words L ∧ ∀ k, G' k → G k ∨ w.heap.size ≤ k
theorem Ref.stay (h : Ref w g G words L) (x : Ext w w') : Left w w' g G words L := ⟨x.mono fun _ _ _ => not_false, G, h.ext x, fun _ => .inl⟩
/-- the same blocks -/
theorem RSt.left (h : RSt w g G words fs Q) {fs' : Sl} {Q' : List Tr} (u : Upd G w w') (r : RAt w' g words fs' Q') (h2 : ∀ p, fs'.a = some p → G p.block ∨ w.heap.size ≤ p.block) (h3 : ∀ s ∈ sls Q', ∀ p, s.a = some p → G p.block ∨ w.heap.size ≤ p.block) (e : Q'.map (·.1) = L) : Left w w' g G words L := by
  refine ⟨u, fun k => G k ∨ (w.heap.size ≤ k ∧ k < w'.heap.size), ⟨fs', Q', ⟨r, .inl h.g1, fun p hp => ?_, fun s hs p hp => ?_, fun k hk => ?_⟩, e⟩, fun k hk => hk.imp id fun h => h.1⟩
  · rcases h2 p hp with h' | h'
    · exact .inl h'
    · exact .inr ⟨h', (r.row.base p hp).2⟩
  · rcases h3 s hs p hp with h' | h'
    · exact .inl h'
    · obtain ⟨xs, hx⟩ := r.any hs
      exact .inr ⟨h', (hx.base p hp).2⟩
  · rcases hk with hk | hk
    · exact Nat.lt_of_lt_of_le (h.lt k hk) u.size
    · exact hk.2

theorem rnew_spec (n : Int) (w : World) : Calls Try.prog 25 #[.int .i64 n] w fun e w' =>
    Ext w w' ∧ ((0 ≤ n ∧ n ≤ 65536 ∧ ∃ g G, e = .returned (.tuple #[.pointer (some ⟨g, 0, none⟩), .int .i64 0]) ∧ Ref w' g G n.toNat [] ∧ ∀ k, G k → w.heap.size ≤ k) ∨
      ((n < 0 ∨ 65536 < n) ∧ e = .returned (.tuple #[.pointer none, .int .i64 1]))) := by
  refine vc_25 _ _ _ ?_
  simp only [eq_self, true_and, and_true, decide_eq_true_eq, decide_eq_false_iff_not, gd_st, gd_sf, exists_eq_left', exists_eq_left, Option.some.injEq, Sl.eta, Nat.reduceLeDiff, Int.reduceLE, Int.reduceLT, Int.reduceEq, Int.reduceNe, Nat.reduceMul, Nat.reduceAdd, Nat.reduceSub, Int.toNat_natCast, beq_iff_eq, bne_iff_ne, beq_eq_false_iff_ne, bne_eq_false_iff_eq, pick_and, pick_or, Bool.and_eq_true, Bool.or_eq_true, Bool.and_eq_false_iff, Bool.or_eq_false_iff, ne_eq, not_false_eq_true, Bool.not_eq_true', Bool.not_eq_false', reduceCtorEq, Nat.le_refl, Nat.zero_mul, Nat.mul_one, Nat.zero_add, Int.reduceToNat, ones, one, add_mk, Decidable.not_not, cond_true, cond_false, true_implies, false_implies, implies_true, Bool.not_true, Bool.not_false]
  refine ⟨fun h0 => ⟨fun h1 => ⟨Ext.refl _, .inr (.inr h1)⟩, fun h1 w1 n1 => ⟨n1.ext, .inl ⟨by omega, by omega, w.heap.size, fun k => k = w.heap.size, rfl, ?_, ?_⟩⟩⟩, fun h0 => ⟨Ext.refl _, .inr (.inl h0)⟩⟩
  · have hs := n1.size
    have hb := Blk.new n1
    rw [show n = ((n.toNat : Nat) : Int) by omega] at hb
    refine ⟨⟨none, 0, 0⟩, [], ⟨⟨hb, Own.nil .., fun t ht => (by cases ht), fun t ht => (by cases ht), fun t ht => (by cases ht), .nil, by simp [used], by omega⟩, rfl, fun p hp => (by cases hp), fun s hs => (by cases hs), fun k hk => ?_⟩, rfl⟩
    omega
  · intro k hk; omega
theorem rtop_out (h : RAt w g words fs []) : Calls Try.prog 39 #[.pointer (some ⟨g, 0, none⟩)] w fun e w' => e = .returned (.pointer none) ∧ Qt w w' := by
  refine vc_39 _ _ _ ?_
  have hb := h.hd
  have hl := h.len
  simp only [eq_self, true_and, and_true, decide_eq_true_eq, decide_eq_false_iff_not, gd_st, gd_sf, exists_eq_left', exists_eq_left, Option.some.injEq, Sl.eta, Nat.reduceLeDiff, Int.reduceLE, Int.reduceLT, Int.reduceEq, Int.reduceNe, Nat.reduceMul, Nat.reduceAdd, Nat.reduceSub, Int.toNat_natCast, beq_iff_eq, bne_iff_ne, beq_eq_false_iff_ne, bne_eq_false_iff_eq, pick_and, pick_or, Bool.and_eq_true, Bool.or_eq_true, Bool.and_eq_false_iff, Bool.or_eq_false_iff, ne_eq, not_false_eq_true, Bool.not_eq_true', Bool.not_eq_false', reduceCtorEq, Nat.le_refl, Nat.zero_mul, Nat.mul_one, Nat.zero_add, Int.reduceToNat, ones, one, add_mk, Decidable.not_not, cond_true, cond_false, true_implies, false_implies, implies_true, Bool.not_true, Bool.not_false]
  simp only [hb.cell, List.getElem?_cons_zero, List.getElem?_cons_succ, ex_sl, Value.int.injEq, Value.bool.injEq, Value.pointer.injEq, Value.string.injEq, eq_self, true_and, and_true, decide_eq_true_eq, decide_eq_false_iff_not, gd_st, gd_sf, exists_eq_left', exists_eq_left, Option.some.injEq, Sl.eta, Nat.reduceLeDiff, Int.reduceLE, Int.reduceLT, Int.reduceEq, Int.reduceNe, Nat.reduceMul, Nat.reduceAdd, Nat.reduceSub, Int.toNat_natCast, beq_iff_eq, bne_iff_ne, beq_eq_false_iff_ne, bne_eq_false_iff_eq, pick_and, pick_or, Bool.and_eq_true, Bool.or_eq_true, Bool.and_eq_false_iff, Bool.or_eq_false_iff, ne_eq, not_false_eq_true, Bool.not_eq_true', Bool.not_eq_false', reduceCtorEq, Nat.le_refl, Nat.zero_mul, Nat.mul_one, Nat.zero_add, Int.reduceToNat, ones, one, add_mk, Decidable.not_not, cond_true, cond_false, true_implies, false_implies, implies_true, Bool.not_true, Bool.not_false]
  exact ⟨fun _ => Qt.refl _, fun hn => absurd (by rw [hl]; rfl) hn⟩
theorem rtop_in (h : RAt w g words fs (A ++ [t])) {r : Nat} (hr : fs.a = some ⟨r, 0, none⟩) : Calls Try.prog 39 #[.pointer (some ⟨g, 0, none⟩)] w fun e w' =>
    e = .returned (.pointer (some ⟨r, A.length * 5, none⟩)) ∧ Qt w w' := by
  refine vc_39 _ _ _ ?_
  have hb := h.hd
  have hl := h.len
  have hs := h.small
  rw [List.length_append, List.length_singleton] at hl hs
  simp only [eq_self, true_and, and_true, decide_eq_true_eq, decide_eq_false_iff_not, gd_st, gd_sf, exists_eq_left', exists_eq_left, Option.some.injEq, Sl.eta, Nat.reduceLeDiff, Int.reduceLE, Int.reduceLT, Int.reduceEq, Int.reduceNe, Nat.reduceMul, Nat.reduceAdd, Nat.reduceSub, Int.toNat_natCast, beq_iff_eq, bne_iff_ne, beq_eq_false_iff_ne, bne_eq_false_iff_eq, pick_and, pick_or, Bool.and_eq_true, Bool.or_eq_true, Bool.and_eq_false_iff, Bool.or_eq_false_iff, ne_eq, not_false_eq_true, Bool.not_eq_true', Bool.not_eq_false', reduceCtorEq, Nat.le_refl, Nat.zero_mul, Nat.mul_one, Nat.zero_add, Int.reduceToNat, ones, one, add_mk, Decidable.not_not, cond_true, cond_false, true_implies, false_implies, implies_true, Bool.not_true, Bool.not_false]
  simp only [hb.cell, List.getElem?_cons_zero, List.getElem?_cons_succ, ex_sl, Value.int.injEq, Value.bool.injEq, Value.pointer.injEq, Value.string.injEq, eq_self, true_and, and_true, decide_eq_true_eq, decide_eq_false_iff_not, gd_st, gd_sf, exists_eq_left', exists_eq_left, Option.some.injEq, Sl.eta, Nat.reduceLeDiff, Int.reduceLE, Int.reduceLT, Int.reduceEq, Int.reduceNe, Nat.reduceMul, Nat.reduceAdd, Nat.reduceSub, Int.toNat_natCast, beq_iff_eq, bne_iff_ne, beq_eq_false_iff_ne, bne_eq_false_iff_eq, pick_and, pick_or, Bool.and_eq_true, Bool.or_eq_true, Bool.and_eq_false_iff, Bool.or_eq_false_iff, ne_eq, not_false_eq_true, Bool.not_eq_true', Bool.not_eq_false', reduceCtorEq, Nat.le_refl, Nat.zero_mul, Nat.mul_one, Nat.zero_add, Int.reduceToNat, ones, one, add_mk, Decidable.not_not, cond_true, cond_false, true_implies, false_implies, implies_true, Bool.not_true, Bool.not_false]
  rw [wrap_i64 (by omega) (by omega)]
  refine ⟨fun hn => by omega, fun _ => ⟨by omega, by omega, _, hr, fun w' q => ⟨?_, q⟩⟩⟩
  rw [add_mk, Nat.zero_add, show ((fs.n : Int) - 1).toNat = A.length by omega]
theorem rused_spec (h : Ref w g G words L) : Calls Try.prog 28 #[.pointer (some ⟨g, 0, none⟩)] w fun e w' =>
    e = .returned (.int .i64 (used L : Nat)) ∧ Ext w w' := by
  obtain ⟨fs, Q, h, rfl⟩ := h
  refine vc_28 _ _ _ ?_
  have hl := h.at_.len
  have hsm := h.at_.small
  have hfit := h.at_.fit
  have hbig := h.at_.big
  simp only [eq_self, true_and, and_true, decide_eq_true_eq, decide_eq_false_iff_not, gd_st, gd_sf, exists_eq_left', exists_eq_left, Option.some.injEq, Sl.eta, Nat.reduceLeDiff, Int.reduceLE, Int.reduceLT, Int.reduceEq, Int.reduceNe, Nat.reduceMul, Nat.reduceAdd, Nat.reduceSub, Int.toNat_natCast, beq_iff_eq, bne_iff_ne, beq_eq_false_iff_ne, bne_eq_false_iff_eq, pick_and, pick_or, Bool.and_eq_true, Bool.or_eq_true, Bool.and_eq_false_iff, Bool.or_eq_false_iff, ne_eq, not_false_eq_true, Bool.not_eq_true', Bool.not_eq_false', reduceCtorEq, Nat.le_refl, Nat.zero_mul, Nat.mul_one, Nat.zero_add, Int.reduceToNat, ones, one, add_mk, Decidable.not_not, cond_true, cond_false, true_implies, false_implies, implies_true, Bool.not_true, Bool.not_false]
  refine ⟨fun n i w' => 0 ≤ i ∧ i ≤ Q.length ∧ n = (used ((Q.take i.toNat).map (·.1)) : Nat) ∧ Ext w w', fun n i _ => (Q.length - i).toNat, ⟨by omega, by omega, by simp [used], Ext.refl _⟩, ?_⟩
  rintro _ n i w1 ⟨i0, i1, rfl, x1⟩
  have h1 := (h.ext x1).at_
  have hb := h1.hd
  simp only [hb.cell, List.getElem?_cons_zero, List.getElem?_cons_succ, ex_sl, Value.int.injEq, Value.bool.injEq, Value.pointer.injEq, Value.string.injEq, eq_self, true_and, and_true, decide_eq_true_eq, decide_eq_false_iff_not, gd_st, gd_sf, exists_eq_left', exists_eq_left, Option.some.injEq, Sl.eta, Nat.reduceLeDiff, Int.reduceLE, Int.reduceLT, Int.reduceEq, Int.reduceNe, Nat.reduceMul, Nat.reduceAdd, Nat.reduceSub, Int.toNat_natCast, beq_iff_eq, bne_iff_ne, beq_eq_false_iff_ne, bne_eq_false_iff_eq, pick_and, pick_or, Bool.and_eq_true, Bool.or_eq_true, Bool.and_eq_false_iff, Bool.or_eq_false_iff, ne_eq, not_false_eq_true, Bool.not_eq_true', Bool.not_eq_false', reduceCtorEq, Nat.le_refl, Nat.zero_mul, Nat.mul_one, Nat.zero_add, Int.reduceToNat, ones, one, add_mk, Decidable.not_not, cond_true, cond_false, true_implies, false_implies, implies_true, Bool.not_true, Bool.not_false]
  refine ⟨fun hi => ?_, fun hi => ?_⟩
  · obtain ⟨A, t, C, rfl, rfl⟩ : ∃ A t C, Q = A ++ t :: C ∧ i = (A.length : Int) := by
      rcases qsplit Q i with hk | hk
      · omega
      · exact hk
    obtain ⟨r, hr, hc⟩ := h1.base
    have hls := h1.ls t (by simp)
    have hok := h1.ok t (by simp)
    have hln := hls.rd.lenu
    have a1 := hok.ls
    have a2 := hok.hi
    have e1 : used (List.map (fun x => x.1) (A ++ t :: C)) = used (A.map (·.1)) + t.1.size + used (C.map (·.1)) := by simp [used_append, used, Nat.add_assoc]
    have e2 : t.1.size = 3 + t.1.ls.length + t.1.hi := rfl
    rw [Int.toNat_natCast, List.take_left]
    refine ⟨i0, by omega, _, hr, t.2.1, ?_, i0, by omega, _, hr, t.1.hi, ?_, fun w2 q2 => ⟨⟨?_, ?_, ?_, x1.trans q2.ext⟩, ?_⟩⟩
    · rw [add_mk, add_mk, Nat.zero_add]; exact hc 2 _ rfl
    · rw [add_mk, add_mk, Nat.zero_add]; exact hc 3 _ rfl
    · rw [wrap_i64 (by omega) (by omega)]; omega
    · rw [wrap_i64 (by omega) (by omega)]; omega
    · rw [wrap_i64 (n := (A.length : Int) + 1) (by omega) (by omega), show ((A.length : Int) + 1).toNat = A.length + 1 by omega, List.take_append, List.take_of_length_le (by omega)]
      rw [show A.length + 1 - A.length = 1 by omega, List.take_succ_cons, List.take_zero, List.map_append, used_append]
      simp only [List.map_cons, List.map_nil, used_one]
      rw [wrap_i64 (n := (used (List.map (fun x => x.1) A) : Nat) + 3) (by omega) (by omega), wrap_i64 (n := _ + (t.2.1.n : Int)) (by omega) (by omega), wrap_i64 (by omega) (by omega)]
      push_cast
      omega
    · rw [wrap_i64 (n := (A.length : Int) + 1) (by omega) (by omega)]; omega
  · rw [List.take_of_length_le (by omega)]
    exact ⟨rfl, x1⟩
theorem rheight_spec (h : Ref w g G words L) : Calls Try.prog 41 #[.pointer (some ⟨g, 0, none⟩)] w fun e w' =>
    e = .returned (.int .i64 ((onTop L 0 fun f => (f.ops.length, f)).1 : Nat)) ∧ Ext w w' := by
  obtain ⟨fs, Q, h, rfl⟩ := h
  refine vc_41 _ _ _ ?_
  simp only [eq_self, true_and, and_true, decide_eq_true_eq, decide_eq_false_iff_not, gd_st, gd_sf, exists_eq_left', exists_eq_left, Option.some.injEq, Sl.eta, Nat.reduceLeDiff, Int.reduceLE, Int.reduceLT, Int.reduceEq, Int.reduceNe, Nat.reduceMul, Nat.reduceAdd, Nat.reduceSub, Int.toNat_natCast, beq_iff_eq, bne_iff_ne, beq_eq_false_iff_ne, bne_eq_false_iff_eq, pick_and, pick_or, Bool.and_eq_true, Bool.or_eq_true, Bool.and_eq_false_iff, Bool.or_eq_false_iff, ne_eq, not_false_eq_true, Bool.not_eq_true', Bool.not_eq_false', reduceCtorEq, Nat.le_refl, Nat.zero_mul, Nat.mul_one, Nat.zero_add, Int.reduceToNat, ones, one, add_mk, Decidable.not_not, cond_true, cond_false, true_implies, false_implies, implies_true, Bool.not_true, Bool.not_false]
  rcases qtop Q with rfl | ⟨A, t, rfl⟩
  · refine ⟨(rtop_out h.at_).mono ?_⟩
    rintro e w1 ⟨rfl, q⟩
    refine ⟨_, rfl, fun _ => ⟨rfl, q.ext⟩, fun h => by cases h⟩
  · obtain ⟨r, hr, _⟩ := h.at_.base
    refine ⟨(rtop_in h.at_ hr).mono ?_⟩
    rintro e w1 ⟨rfl, q⟩
    have h1 := (h.ext q.ext).at_
    obtain ⟨r', hr', hc⟩ := h1.base
    rw [hr] at hr'; injection hr' with hr'; injection hr' with hr'; subst hr'
    have hln := (h1.ops t (by simp)).rd.lenu
    refine ⟨_, rfl, fun h => (by cases h), fun _ => ⟨_, rfl, t.2.2, ?_, ?_, q.ext⟩⟩
    · rw [add_mk]; exact hc 4 _ rfl
    · rw [List.map_append, List.map_cons, List.map_nil, onTop_snoc, hln]
theorem rget_spec (i : Int) (h : Ref w g G words L) : Calls Try.prog 45 #[.pointer (some ⟨g, 0, none⟩), .int .i64 i] w fun e w' =>
    e = .returned (.tuple #[.int .u64 ((onTop L (0, 20) (getF i)).1.1 : Nat), .int .i64 (onTop L (0, 20) (getF i)).1.2]) ∧ Ext w w' := by
  obtain ⟨fs, Q, h, rfl⟩ := h
  refine vc_45 _ _ _ _ ?_
  simp only [eq_self, true_and, and_true, decide_eq_true_eq, decide_eq_false_iff_not, gd_st, gd_sf, exists_eq_left', exists_eq_left, Option.some.injEq, Sl.eta, Nat.reduceLeDiff, Int.reduceLE, Int.reduceLT, Int.reduceEq, Int.reduceNe, Nat.reduceMul, Nat.reduceAdd, Nat.reduceSub, Int.toNat_natCast, beq_iff_eq, bne_iff_ne, beq_eq_false_iff_ne, bne_eq_false_iff_eq, pick_and, pick_or, Bool.and_eq_true, Bool.or_eq_true, Bool.and_eq_false_iff, Bool.or_eq_false_iff, ne_eq, not_false_eq_true, Bool.not_eq_true', Bool.not_eq_false', reduceCtorEq, Nat.le_refl, Nat.zero_mul, Nat.mul_one, Nat.zero_add, Int.reduceToNat, ones, one, add_mk, Decidable.not_not, cond_true, cond_false, true_implies, false_implies, implies_true, Bool.not_true, Bool.not_false]
  rcases qtop Q with rfl | ⟨A, t, rfl⟩
  · refine ⟨(rtop_out h.at_).mono ?_⟩
    rintro e w1 ⟨rfl, q⟩
    refine ⟨_, rfl, fun h => (by cases h), fun _ => ⟨rfl, q.ext⟩⟩
  · obtain ⟨r, hr, _⟩ := h.at_.base
    refine ⟨(rtop_in h.at_ hr).mono ?_⟩
    rintro e w1 ⟨rfl, q⟩
    have h1 := (h.ext q.ext).at_
    obtain ⟨r', hr', hc⟩ := h1.base
    rw [hr] at hr'; injection hr' with hr'; injection hr' with hr'; subst hr'
    have hls := (h1.ls t (by simp)).rd
    have hln := hls.lenu
    have c2 : w1.cell? (Addr.add ⟨r, A.length * 5, none⟩ 2) = some (.slice t.2.1.a t.2.1.n t.2.1.c) := by rw [add_mk]; exact hc 2 _ rfl
    rw [List.map_append, List.map_cons, List.map_nil, onTop_snoc]
    refine ⟨_, rfl, fun _ => ⟨fun h0 => ⟨_, rfl, t.2.1, c2, fun hi => ?_, fun hi => ?_⟩, fun h0 => ?_⟩, fun h => by cases h⟩
    · rw [getF, if_neg (by omega)]; exact ⟨rfl, q.ext⟩
    · obtain ⟨p, x, hp, hx, hcx⟩ := hls.word i.toNat (by omega)
      rw [Nat.mul_one] at hcx
      rw [getF, if_pos (by omega)]
      refine ⟨_, rfl, t.2.1, c2, by omega, by omega, p, hp, x, hcx, ?_, q.ext⟩
      simp only [List.getD_eq_getElem?_getD, hx, Option.getD_some]
    · rw [getF, if_neg (by omega)]; exact ⟨rfl, q.ext⟩
theorem rpeek_spec (i : Int) (h : Ref w g G words L) : Calls Try.prog 49 #[.pointer (some ⟨g, 0, none⟩), .int .i64 i] w fun e w' =>
    e = .returned (.tuple #[.int .u64 ((onTop L (0, 20) (peekF i)).1.1 : Nat), .int .i64 (onTop L (0, 20) (peekF i)).1.2]) ∧ Ext w w' := by
  obtain ⟨fs, Q, h, rfl⟩ := h
  refine vc_49 _ _ _ _ ?_
  simp only [eq_self, true_and, and_true, decide_eq_true_eq, decide_eq_false_iff_not, gd_st, gd_sf, exists_eq_left', exists_eq_left, Option.some.injEq, Sl.eta, Nat.reduceLeDiff, Int.reduceLE, Int.reduceLT, Int.reduceEq, Int.reduceNe, Nat.reduceMul, Nat.reduceAdd, Nat.reduceSub, Int.toNat_natCast, beq_iff_eq, bne_iff_ne, beq_eq_false_iff_ne, bne_eq_false_iff_eq, pick_and, pick_or, Bool.and_eq_true, Bool.or_eq_true, Bool.and_eq_false_iff, Bool.or_eq_false_iff, ne_eq, not_false_eq_true, Bool.not_eq_true', Bool.not_eq_false', reduceCtorEq, Nat.le_refl, Nat.zero_mul, Nat.mul_one, Nat.zero_add, Int.reduceToNat, ones, one, add_mk, Decidable.not_not, cond_true, cond_false, true_implies, false_implies, implies_true, Bool.not_true, Bool.not_false]
  rcases qtop Q with rfl | ⟨A, t, rfl⟩
  · refine ⟨(rtop_out h.at_).mono ?_⟩
    rintro e w1 ⟨rfl, q⟩
    refine ⟨_, rfl, fun h => (by cases h), fun _ => ⟨rfl, q.ext⟩⟩
  · obtain ⟨r, hr, _⟩ := h.at_.base
    refine ⟨(rtop_in h.at_ hr).mono ?_⟩
    rintro e w1 ⟨rfl, q⟩
    have h1 := (h.ext q.ext).at_
    obtain ⟨r', hr', hc⟩ := h1.base
    rw [hr] at hr'; injection hr' with hr'; injection hr' with hr'; subst hr'
    have hops := (h1.ops t (by simp)).rd
    have hok := h1.ok t (by simp)
    have a1 := hok.ops
    have a2 := hok.hi
    have hln := hops.lenu
    have c2 : w1.cell? (Addr.add ⟨r, A.length * 5, none⟩ 4) = some (.slice t.2.2.a t.2.2.n t.2.2.c) := by rw [add_mk]; exact hc 4 _ rfl
    rw [List.map_append, List.map_cons, List.map_nil, onTop_snoc]
    refine ⟨_, rfl, fun _ => ⟨fun h0 => ⟨_, rfl, t.2.2, c2, fun hi => ?_, fun hi => ?_⟩, fun h0 => ?_⟩, fun h => by cases h⟩
    · rw [peekF, if_neg (by omega)]; exact ⟨rfl, q.ext⟩
    · rw [peekF, if_pos (by omega)]
      refine ⟨_, rfl, t.2.2, c2, _, rfl, t.2.2, c2, ?_⟩
      rw [wrap_i64 (n := (t.2.2.n : Int) - 1) (by omega) (by omega), wrap_i64 (by omega) (by omega)]
      obtain ⟨p, x, hp, hx, hcx⟩ := hops.word (t.1.ops.length - 1 - i.toNat) (by omega)
      rw [Nat.mul_one] at hcx
      refine ⟨by omega, by omega, p, hp, x, ?_, fun w2 q2 => ⟨?_, q.ext.trans q2.ext⟩⟩
      · rw [show ((t.2.2.n : Int) - 1 - i).toNat = t.1.ops.length - 1 - i.toNat by omega]; exact hcx
      · simp only [List.getD_eq_getElem?_getD, hx, Option.getD_some]
    · rw [peekF, if_neg (by omega)]; exact ⟨rfl, q.ext⟩
end
end Go.Proofs.Ytodbmiflnellcaa.V
