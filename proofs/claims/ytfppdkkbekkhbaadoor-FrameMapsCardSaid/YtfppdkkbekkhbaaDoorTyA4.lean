/-
  New: a table of a list of types that is right.
-/
import Derived.Test.YtfppdkkbekkhbaaDoorTyA3
namespace Go.Proofs.YtfppdkkbekkhbaaDoor.V.T
open Go Go.RowKit
set_option linter.unusedVariables false
set_option linter.unusedSimpArgs false

/-- the table of a right list -/
def Table (w : World) (B g : Nat) (L : List Ty) : Prop := ∃ (T : List Tp) (sa sl : Sl) (c : List Nat), Tbl w B g T sa sl c ∧ T.map (·.1) = allT L ∧ Right L ∧ Cls (allT L) c ∧ Next (allT L) c c (allT L).length
section
variable {w w' : World} {B g : Nat} {S : Nat → Prop} {L : List Ty}
theorem Table.upd (h : Table w B g L) (u : Upd S w w') (hS : ∀ k, S k → k < B ∨ w.heap.size ≤ k) : Table w' B g L := by
  obtain ⟨T, sa, sl, c, h, r⟩ := h
  exact ⟨T, sa, sl, c, h.upd u hS, r⟩
theorem Table.ext (h : Table w B g L) (u : Ext w w') : Table w' B g L := h.upd u fun _ => False.elim
end
set_option maxRecDepth 100000 in
theorem New_spec {l : Sl} {T : List Tp} {w : World} (h : Tys w l T) (hp : ∀ t ∈ T, t.1.parts.length ≤ 1000000000000000) :
    Calls Tryd.prog 26 #[.slice l.a l.n l.c] w fun e w' => Ext w w' ∧
      (((rightT (T.map (·.1))).2 ≠ 0 ∧ e = .returned (.tuple #[.pointer none, .int .i64 (rightT (T.map (·.1))).2])) ∨
       ((rightT (T.map (·.1))).2 = 0 ∧ ∃ g, e = .returned (.tuple #[.pointer (some ⟨g, 0, none⟩), .int .i64 0]) ∧ Table w' w.heap.size g (T.map (·.1)))) := by
  refine vc_26 l _ _ ?_
  have hl := h.len
  have hL : (T.map (·.1)).length = T.length := List.length_map ..
  simp only [eq_self, false_or, or_false, true_and, and_true, decide_eq_true_eq, decide_eq_false_iff_not, gd_st, gd_sf, exists_eq_left', exists_eq_left, Option.some.injEq, Sl.eta, Nat.reduceLeDiff, Int.reduceLE, Int.reduceLT, Int.reduceEq, Int.reduceNe, Nat.reduceMul, Nat.reduceAdd, Nat.reduceSub, Int.toNat_natCast, beq_iff_eq, bne_iff_ne, beq_eq_false_iff_ne, bne_eq_false_iff_eq, pick_and, pick_or, Bool.and_eq_true, Bool.or_eq_true, Bool.and_eq_false_iff, Bool.or_eq_false_iff, ne_eq, not_false_eq_true, Bool.not_eq_true', Bool.not_eq_false', reduceCtorEq, Nat.le_refl, Nat.zero_mul, Nat.mul_one, Nat.zero_add, Int.reduceToNat, ones, one, add_mk, Decidable.not_not, cond_true, cond_false, true_implies, false_implies, implies_true, Bool.not_true, Bool.not_false]
  refine ⟨(Right_spec h (fun t ht => by have := hp t ht; omega)).mono ?_⟩
  rintro e w1 ⟨rfl, x1⟩
  refine ⟨_, _, rfl, fun hne => ⟨x1, .inl ⟨hne, rfl⟩⟩, fun he => ?_⟩
  have hright := rightT_ok.1 he
  have hfew := hright.few
  intro w2 n2 w3 n3
  have x2 := n2.ext
  have x3 := n3.ext
  have x03 : Ext w w3 := (x1.trans x2).trans x3
  have g3 := Blk.new n3
  have o2 : Own w2 w.heap.size 62 3 ⟨some ⟨w1.heap.size, 0, none⟩, 2, 2⟩ (tyFlat [(⟨0, [], 0⟩, ⟨none, 0, 0⟩), (⟨1, [], 0⟩, ⟨none, 0, 0⟩)]) := Own.lit (n := 2) n2 x1.size rfl (by omega)
  have g2 : w1.heap.size < w2.heap.size := by rw [n2.size]; omega
  refine ⟨fun n w' => ∃ (sa : Sl) (T' : List Tp), 0 ≤ n ∧ n ≤ T.length ∧ Ext w w' ∧ Blk w' w2.heap.size 64 [.slice sa.a sa.n sa.c, .slice none 0 0] ∧ TyOwn w' w.heap.size sa T' ∧ T'.map (·.1) = ⟨0, [], 0⟩ :: ⟨1, [], 0⟩ :: (T.map (·.1)).take n.toNat,
    fun n _ => (T.length - n).toNat, ⟨_, _, by omega, by omega, x03, g3, ⟨o2.ext x3, ?_⟩, rfl⟩, ?_⟩
  · intro t ht
    simp only [List.mem_cons, List.not_mem_nil, or_false] at ht
    rcases ht with rfl | rfl <;> exact Own.nil ..
  rintro _ n w4 ⟨sa, T', m0, m1, x4, g4, o4, hT'⟩
  have hTl : T'.length = 2 + n.toNat := by
    have := congrArg List.length hT'
    simp at this
    omega
  have hsl := o4.tys.len
  have hgw : w.heap.size ≤ w2.heap.size := Nat.le_trans x1.size x2.size
  refine ⟨fun hlt => ?_, fun hge => ?_⟩
  · obtain ⟨i, rfl⟩ : ∃ i : Nat, n = i := ⟨n.toNat, by omega⟩
    rw [Int.toNat_natCast] at hTl hT'
    obtain ⟨t, ht, htm, hmm⟩ := getM (T := T) (i := i) (by omega)
    obtain ⟨p, hp', hc⟩ := (h.ext x4).cell ht
    have c0 := hc 0 _ rfl; have c1 := hc 1 _ rfl; have c2 := hc 2 _ rfl
    refine ⟨m0, hlt, p, hp', t.1.kind, t.2, t.1.of, rfl, ⟨c0, c1, c2⟩, ?_⟩
    intro w5 n5
    have k5 := Blk.new n5
    refine ⟨rfl, k5.canSetN 0 3 (by simp), ?_⟩
    intro w6 s6
    have k6 := s6.blk k5
    simp only [setsL, List.set] at k6
    have x6 : Ext w4 w6 := n5.ext.fresh s6.upd (by rintro i rfl; exact Nat.le_refl _)
    simp only [k6.cell, List.getElem?_cons_zero, List.getElem?_cons_succ, ex_sl, Value.int.injEq, Value.bool.injEq, Value.pointer.injEq, Value.string.injEq, eq_self, false_or, or_false, true_and, and_true, decide_eq_true_eq, decide_eq_false_iff_not, gd_st, gd_sf, exists_eq_left', exists_eq_left, Option.some.injEq, Sl.eta, Nat.reduceLeDiff, Int.reduceLE, Int.reduceLT, Int.reduceEq, Int.reduceNe, Nat.reduceMul, Nat.reduceAdd, Nat.reduceSub, Int.toNat_natCast, beq_iff_eq, bne_iff_ne, beq_eq_false_iff_ne, bne_eq_false_iff_eq, pick_and, pick_or, Bool.and_eq_true, Bool.or_eq_true, Bool.and_eq_false_iff, Bool.or_eq_false_iff, ne_eq, not_false_eq_true, Bool.not_eq_true', Bool.not_eq_false', reduceCtorEq, Nat.le_refl, Nat.zero_mul, Nat.mul_one, Nat.zero_add, Int.reduceToNat, ones, one, add_mk, Decidable.not_not, cond_true, cond_false, true_implies, false_implies, implies_true, Bool.not_true, Bool.not_false]
    have htl := ((h.ext x4).parts t htm).leni
    refine ⟨(clone_spec (((h.ext x4).ext x6).parts t htm) (by have := (hright.ok t.1 (List.mem_map_of_mem htm)).few; omega)).mono ?_⟩
    rintro e w7 ⟨r, rfl, or, x7⟩
    have k7 := k6.ext x7
    refine ⟨r, rfl, k7.canSet 1 (by simp), ?_⟩
    intro w8 s8 w9 q9
    have k8 := s8.blk1 k7
    simp only [List.set] at k8
    have x8 : Ext w4 w8 := (x6.trans x7).fresh s8.upd (by rintro i rfl; exact Nat.le_refl _)
    have x9 : Ext w4 w9 := x8.trans q9.ext
    have k9 := k8.ext q9.ext
    have g9 := g4.ext x9
    have o9 := o4.ext x9
    have or8 := or.upd s8.upd (own_off or fun k hk => .inl (by subst hk; have := k6.lt; dsimp only; omega))
    have or9 := (or8.ext q9.ext).mono (B' := w.heap.size) (by have := x4.size; have := x6.size; omega)
    have hS : ∀ k, (∃ p, sa.a = some p ∧ k = p.block) → k ≠ w2.heap.size ∧ k ≠ w4.heap.size := by
      rintro k ⟨p, hp, rfl⟩
      refine ⟨own_blk_ne o9.row g9 (by decide) p hp, ?_⟩
      have := (o4.row.base p hp).2
      omega
    have r1 : ∀ w', Upd (fun k => ∃ p, sa.a = some p ∧ k = p.block) w9 w' → w'.cell? ⟨w2.heap.size, 0, none⟩ = some (.slice sa.a sa.n sa.c) := fun _ u => (g9.upd u fun hk => (hS _ hk).1 rfl).cell 0
    have r2 : ∀ w', Upd (fun k => ∃ p, sa.a = some p ∧ k = p.block) w9 w' → w'.cell? ⟨w4.heap.size, 0, none⟩ = some (.int .i64 t.1.kind) ∧ w'.cell? ⟨w4.heap.size, 1, none⟩ = some (.slice r.a r.n r.c) ∧ w'.cell? ⟨w4.heap.size, 2, none⟩ = some (.int .i64 t.1.of) := fun _ u =>
      have k := k9.upd u fun hk => (hS _ hk).2 rfl
      ⟨k.cell 0, k.cell 1, k.cell 2⟩
    refine ⟨_, sa, r1, _, r, _, rfl, r2, rfl, ?_⟩
    intro w10 n10
    have x10 := n10.ext
    have k10 := Blk.new n10
    have o10 := o9.ext x10
    have rd10 : Rd w10 3 ⟨some ⟨w9.heap.size, 0, none⟩, 1, 1⟩ (tyRow (t.1, r)) := by
      have := k10.rd (z := 3) (o := 0) (n := 1) (c := 1) (by simp)
      exact this
    obtain ⟨ra, w11, hr, hn2, o11, u11, hbase⟩ := o10.row.append (t := 36) (ty := 36) tab_ok (by rfl) (by rfl) (by decide) rd10 (fun v hv => tyFlat_ones [(t.1, r)] v (by simpa [tyFlat] using hv)) (by dsimp only; omega) (by dsimp only; omega) (by have := x4.size; have := x9.size; have := x10.size; omega)
    have g11 := (g9.ext x10).upd u11 fun hk => (hS _ hk).1 rfl
    refine ⟨x10.mono fun _ _ _ => not_false, ra, w11, hr, u11, g11.canSet 0 (by simp), ?_⟩
    intro w12 s12
    have g12 := s12.blk1 g11
    simp only [List.set] at g12
    have u12 := s12.upd
    have hx : Ext w w12 := by
      refine (x4.trans (x9.trans x10)).fresh (u11.trans u12 (R := fun k => w.heap.size ≤ k) fun k _ hk => ⟨?_, ?_⟩) fun k hk => hk
      · rintro ⟨p, hp, rfl⟩
        exact hk (o9.row.base p hp).1
      · rintro rfl
        exact hk hgw
    have p11 : ∀ t ∈ T', Own w11 w.heap.size 3 1 t.2 (iv t.1.parts) := fun u hu => (o10.parts u hu).upd u11 fun p hp => by
      rintro ⟨q, hq, he⟩
      exact own_ne (o10.parts u hu) o10.row (by decide) p q hp hq he
    have pr : Own w11 w.heap.size 3 1 r (iv t.1.parts) := (or9.ext x10).upd u11 fun p hp => by
      rintro ⟨q, hq, he⟩
      exact own_ne (or9.ext x10) o10.row (by decide) p q hp hq he
    have gt11 := g11
    refine ⟨⟨ra, T' ++ [(t.1, r)], ?_, ?_, hx, g12, ⟨?_, ?_⟩, ?_⟩, ?_⟩
    · (first | (rw [wrap_i64 (by omega) (by omega)]; omega) | (dsimp only; rw [wrap_i64 (by omega) (by omega)]; omega) | (dsimp only; omega))
    · (first | (rw [wrap_i64 (by omega) (by omega)]; omega) | (dsimp only; rw [wrap_i64 (by omega) (by omega)]; omega) | (dsimp only; omega))
    · rw [tyFlat_append]
      have : Own w11 w.heap.size 62 3 ra (tyFlat T' ++ tyFlat [(t.1, r)]) := by simpa [tyFlat] using o11
      exact this.upd u12 (own_blk_ne this gt11 (by decide))
    · intro u hu
      rcases List.mem_append.1 hu with hu | hu
      · exact (p11 u hu).upd u12 (own_blk_ne (p11 u hu) gt11 (by decide))
      · simp only [List.mem_cons, List.not_mem_nil, or_false] at hu
        subst hu
        exact pr.upd u12 (own_blk_ne pr gt11 (by decide))
    · rw [wrap_i64 (by omega) (by omega), List.map_append, hT', show ((i : Int) + 1).toNat = i + 1 by omega, List.take_add_one, hmm]
      rfl
    · (first | (rw [wrap_i64 (by omega) (by omega)]; omega) | (dsimp only; rw [wrap_i64 (by omega) (by omega)]; omega) | (dsimp only; omega))
  · have hn : n.toNat = T.length := by omega
    rw [hn, show T.length = (T.map (·.1)).length from hL.symm, List.take_length] at hT'
    have hall : T'.map (·.1) = allT (T.map (·.1)) := hT'
    have hok := hright.all
    refine ⟨(classes_spec (sl0 := ⟨none, 0, 0⟩) g4 hgw o4 (by omega) (by omega) (by rw [hall]; exact hok)).mono ?_⟩
    rintro e w5 ⟨rfl, u5, sl, c, t5, c5, n5⟩
    rw [hall] at c5 n5
    refine ⟨_, rfl, x4.fresh u5 fun k hk => by subst hk; exact hgw, .inr ⟨he, w2.heap.size, rfl, T', sa, sl, c, t5, hall, hright, c5, n5⟩⟩
end Go.Proofs.YtfppdkkbekkhbaaDoor.V.T
