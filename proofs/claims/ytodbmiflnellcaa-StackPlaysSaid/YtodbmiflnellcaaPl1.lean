/-
  Law StackPlays: both stacks, a frame told.
-/
import Derived.Test.YtodbmiflnellcaaRf5
namespace Go.Proofs.Ytodbmiflnellcaa.V
open Go Go.RowKit
set_option linter.unusedVariables false
set_option linter.unusedSimpArgs false

theorem full_spec {w : World} {B : Nat} {l : Sl} {xs : List Nat} (mark : Nat) (h : Own w B 34 1 l (uv xs)) (hl : l.n ≤ 1000) :
    Calls Try.prog 43 #[.slice l.a l.n l.c, .int .u64 (mark : Nat)] w fun e w' => (∃ v, e = .returned v) ∧ Upd (fun k => ∃ p, l.a = some p ∧ k = p.block) w w' := by
  refine vc_43 _ _ _ _ ?_
  simp only [eq_self, true_and, and_true, decide_eq_true_eq, decide_eq_false_iff_not, gd_st, gd_sf, exists_eq_left', exists_eq_left, Option.some.injEq, Sl.eta, Nat.reduceLeDiff, Int.reduceLE, Int.reduceLT, Int.reduceEq, Int.reduceNe, Nat.reduceMul, Nat.reduceAdd, Nat.reduceSub, Int.toNat_natCast, beq_iff_eq, bne_iff_ne, beq_eq_false_iff_ne, bne_eq_false_iff_eq, pick_and, pick_or, Bool.and_eq_true, Bool.or_eq_true, Bool.and_eq_false_iff, Bool.or_eq_false_iff, ne_eq, not_false_eq_true, Bool.not_eq_true', Bool.not_eq_false', reduceCtorEq, Nat.le_refl, Nat.zero_mul, Nat.mul_one, Nat.zero_add, Int.reduceToNat, ones, one, add_mk, Decidable.not_not, cond_true, cond_false, true_implies, false_implies, implies_true, Bool.not_true, Bool.not_false]
  refine ⟨fun n w' => 0 ≤ n ∧ n ≤ l.n ∧ (∃ ys, Own w' B 34 1 l (uv ys)) ∧ Upd (fun k => ∃ p, l.a = some p ∧ k = p.block) w w', fun n _ => (l.n - n).toNat, ⟨by omega, by omega, ⟨xs, h⟩, .refl _ _⟩, ?_⟩
  rintro _ n w1 ⟨n0, n1, ⟨ys, h1⟩, u1⟩
  refine ⟨fun hn => ?_, fun hn => ?_⟩
  · obtain ⟨p, x, hp, _⟩ := h1.rd.word n.toNat (by omega)
    refine ⟨n0, hn, p, hp, h1.canAt hp (by omega), fun w2 hs => ?_⟩
    obtain ⟨h2, u2⟩ := h1.setAt hp (by omega) hs
    rw [uv_set] at h2
    refine ⟨⟨?_, ?_, ⟨_, h2⟩, u1.same (u2.mono fun k _ hk e => hk ⟨p, hp, e⟩)⟩, ?_⟩
    · rw [wrap_i64 (by omega) (by omega)]; omega
    · rw [wrap_i64 (by omega) (by omega)]; omega
    · dsimp only
      rw [wrap_i64 (by omega) (by omega)]; omega
  · refine ⟨fun s n w' => 0 ≤ n ∧ n ≤ 40 ∧ s.n ≤ l.n + n ∧ (∃ ys, Own w' 0 34 1 s (uv ys)) ∧ (∀ p, s.a = some p → l.a = some p ∨ w.heap.size ≤ p.block) ∧ Upd (fun k => ∃ p, l.a = some p ∧ k = p.block) w w', fun _ n _ => (40 - n).toNat,
      ⟨by omega, by omega, by omega, ⟨ys, h1.mono (Nat.zero_le _)⟩, fun p hp => .inl hp, u1⟩, ?_⟩
    rintro _ s m w2 ⟨m0, m1, hsn, ⟨zs, h2⟩, hfr, u2⟩
    refine ⟨fun hm w3 n3 => ?_, fun hm => ⟨⟨_, rfl⟩, u2⟩⟩
    have hx3 : Rd w3 1 ⟨some ⟨w2.heap.size, 0, none⟩, 1, 1⟩ (uv [mark]) := (Blk.new n3).rd (by simp)
    obtain ⟨r, w4, hr4, hrn, ho4, hu4, hf4⟩ := (h2.ext n3.ext).append (t := 47) (ty := 47) tab_ok rfl rfl (by decide) hx3 (uv_ones _) (by simp only; omega) (by simp only; omega) (Nat.zero_le _)
    rw [← uv_append] at ho4
    refine ⟨r, w4, hr4, ⟨?_, ?_, ?_, ⟨_, ho4⟩, fun p hp => ?_, (u2.ext n3.ext).fresh hu4 ?_⟩, ?_⟩
    · rw [wrap_i64 (by omega) (by omega)]; omega
    · rw [wrap_i64 (by omega) (by omega)]; omega
    · rw [wrap_i64 (by omega) (by omega), hrn]; simp only; omega
    · rcases hf4 p hp with h' | h'
      · exact hfr p h'
      · right
        have := (u2.ext n3.ext).size
        omega
    · rintro i ⟨p, hp, rfl⟩
      rcases hfr p hp with h' | h'
      · exact .inr ⟨p, h', rfl⟩
      · exact .inl h'
    · dsimp only
      rw [wrap_i64 (by omega) (by omega)]; omega

/-- the program's stack and the document's, the same frames, in blocks of their own -/
structure Pair (w0 w : World) (g : Nat) (F : Nat → Prop) (g' : Nat) (G : Nat → Prop) (words : Nat) (L : List Fr) : Prop where
  ext : Ext w0 w
  s : Stk w g F words L
  r : Ref w g' G words L
  fn : ∀ k, F k → w0.heap.size ≤ k
  gn : ∀ k, G k → w0.heap.size ≤ k
  dj : ∀ k, F k → ¬ G k
section
variable {w0 w w1 w2 : World} {g g' words : Nat} {F F' G : Nat → Prop} {L L' : List Fr}
theorem Pair.qt (P : Pair w0 w g F g' G words L) (x : Ext w w1) : Pair w0 w1 g F g' G words L := ⟨P.ext.trans x, P.s.ext x, P.r.ext x, P.fn, P.gn, P.dj⟩
theorem Pair.ref (P : Pair w0 w g F g' G words L) (u : Upd F w w1) : Ref w1 g' G words L := P.r.upd u fun k hk hf => P.dj k hf hk
theorem Pair.both (P : Pair w0 w g F g' G words L) (u : Upd F w w1) (s : Stk w1 g F' words L') (hF : ∀ k, F' k → F k ∨ w.heap.size ≤ k) (l : Left w1 w2 g' G words L') : ∃ F' G', Pair w0 w2 g F' g' G' words L' := by
  obtain ⟨u2, G', r, hG⟩ := l
  have hd : ∀ k, F' k → ¬ G k := fun k hk hg => by
    rcases hF k hk with h | h
    · exact P.dj k h hg
    · have := P.r.lt k hg; omega
  refine ⟨F', G', (P.ext.fresh u P.fn).fresh u2 P.gn, s.upd u2 hd, r, fun k hk => ?_, fun k hk => ?_, fun k hk hg => ?_⟩
  · rcases hF k hk with h | h
    · exact P.fn k h
    · have := P.ext.size; omega
  · rcases hG k hk with h | h
    · exact P.gn k h
    · have := P.ext.size; have := u.size; omega
  · rcases hG k hg with h | h
    · exact hd k hk h
    · have := s.lt k hk; omega
end

set_option maxRecDepth 100000 in
theorem lawframe_spec {w0 w : World} {g g' words : Nat} {F G : Nat → Prop} {L : List Fr} (k : Int) (P : Pair w0 w g F g' G words L) :
    Calls Try.prog 27 #[.pointer (some ⟨g, 0, none⟩), .pointer (some ⟨g', 0, none⟩), .int .i64 k] w fun e w' => e = .returned (.bool true) ∧ Ext w w' := by
  refine vc_27 _ _ _ _ _ ?_
  simp only [eq_self, true_and, and_true, decide_eq_true_eq, decide_eq_false_iff_not, gd_st, gd_sf, exists_eq_left', exists_eq_left, Option.some.injEq, Sl.eta, Nat.reduceLeDiff, Int.reduceLE, Int.reduceLT, Int.reduceEq, Int.reduceNe, Nat.reduceMul, Nat.reduceAdd, Nat.reduceSub, Int.toNat_natCast, beq_iff_eq, bne_iff_ne, beq_eq_false_iff_ne, bne_eq_false_iff_eq, pick_and, pick_or, Bool.and_eq_true, Bool.or_eq_true, Bool.and_eq_false_iff, Bool.or_eq_false_iff, ne_eq, not_false_eq_true, Bool.not_eq_true', Bool.not_eq_false', reduceCtorEq, Nat.le_refl, Nat.zero_mul, Nat.mul_one, Nat.zero_add, Int.reduceToNat, ones, one, add_mk, Decidable.not_not, cond_true, cond_false, true_implies, false_implies, implies_true, Bool.not_true, Bool.not_false]
  have fresh4 : ∀ {a b c : World} {o : Obj} {p : Addr} {vs : List Value}, NewW a o b → SetW b p vs c → p.block = a.heap.size → Ext a c := fun n hs hp =>
    n.ext.fresh hs.upd (by rintro i rfl; omega)
  refine ⟨(frameT_spec k P.s).mono ?_⟩
  rintro e w1 ⟨x01, hin⟩
  obtain ⟨fs, Q, hQ, hQL⟩ := P.r
  have hQl : (fs.n : Int) = L.length := by rw [← hQL, List.length_map, hQ.at_.len]
  rcases hin with ⟨hk, rfl⟩ | ⟨A, f, C, a, b, hL, hkA, hok, rfl, td⟩
  · refine ⟨_, _, ⟨none, 0, 0⟩, ⟨none, 0, 0⟩, false, rfl, fun w2 n2 => ⟨rfl, (Blk.new n2).canSetN 0 4 (by simp), fun w3 hs3 => ?_⟩⟩
    have x13 := fresh4 n2 hs3 rfl
    have hb3 := hs3.blk (Blk.new n2)
    simp only [setsL, List.set_cons_zero, List.set_cons_succ] at hb3
    refine ⟨(frameT_spec k ((P.s.ext x01).ext x13)).mono ?_⟩
    rintro e w4 ⟨x34, ⟨_, rfl⟩ | ⟨A, f, C, a, b, hL, hkA, _⟩⟩
    rotate_left
    · rw [hL, List.length_append, List.length_cons] at hk; omega
    refine ⟨_, _, ⟨none, 0, 0⟩, ⟨none, 0, 0⟩, false, rfl, fun w5 n5 => ⟨rfl, (Blk.new n5).canSetN 0 4 (by simp), fun w6 hs6 => ?_⟩⟩
    have x46 := fresh4 n5 hs6 rfl
    have x06 : Ext w w6 := ((x01.trans x13).trans x34).trans x46
    have hr6 := (hQ.ext x06).at_.hd
    have hb6 := hb3.ext (x34.trans x46)
    simp only [hr6.cell, List.getElem?_cons_zero, List.getElem?_cons_succ, ex_sl, Value.int.injEq, Value.bool.injEq, Value.pointer.injEq, Value.string.injEq, eq_self, true_and, and_true, decide_eq_true_eq, decide_eq_false_iff_not, gd_st, gd_sf, exists_eq_left', exists_eq_left, Option.some.injEq, Sl.eta, Nat.reduceLeDiff, Int.reduceLE, Int.reduceLT, Int.reduceEq, Int.reduceNe, Nat.reduceMul, Nat.reduceAdd, Nat.reduceSub, Int.toNat_natCast, beq_iff_eq, bne_iff_ne, beq_eq_false_iff_ne, bne_eq_false_iff_eq, pick_and, pick_or, Bool.and_eq_true, Bool.or_eq_true, Bool.and_eq_false_iff, Bool.or_eq_false_iff, ne_eq, not_false_eq_true, Bool.not_eq_true', Bool.not_eq_false', reduceCtorEq, Nat.le_refl, Nat.zero_mul, Nat.mul_one, Nat.zero_add, Int.reduceToNat, ones, one, add_mk, Decidable.not_not, cond_true, cond_false, true_implies, false_implies, implies_true, Bool.not_true, Bool.not_false]
    refine ⟨fun b w' => w' = w6 ∧ b = true, ⟨fun h0 => ⟨rfl, by rw [hQl]; simp; omega⟩, fun _ => ⟨rfl, rfl⟩⟩, ?_⟩
    rintro _ b w' ⟨rfl, rfl⟩
    refine ⟨fun _ => ?_, fun h => by cases h⟩
    simp only [hb6.cell, List.getElem?_cons_zero, List.getElem?_cons_succ, ex_sl, Value.int.injEq, Value.bool.injEq, Value.pointer.injEq, Value.string.injEq, eq_self, true_and, and_true, decide_eq_true_eq, decide_eq_false_iff_not, gd_st, gd_sf, exists_eq_left', exists_eq_left, Option.some.injEq, Sl.eta, Nat.reduceLeDiff, Int.reduceLE, Int.reduceLT, Int.reduceEq, Int.reduceNe, Nat.reduceMul, Nat.reduceAdd, Nat.reduceSub, Int.toNat_natCast, beq_iff_eq, bne_iff_ne, beq_eq_false_iff_ne, bne_eq_false_iff_eq, pick_and, pick_or, Bool.and_eq_true, Bool.or_eq_true, Bool.and_eq_false_iff, Bool.or_eq_false_iff, ne_eq, not_false_eq_true, Bool.not_eq_true', Bool.not_eq_false', reduceCtorEq, Nat.le_refl, Nat.zero_mul, Nat.mul_one, Nat.zero_add, Int.reduceToNat, ones, one, add_mk, Decidable.not_not, cond_true, cond_false, true_implies, false_implies, implies_true, Bool.not_true, Bool.not_false]
    exact ⟨fun _ => ⟨fun _ => ⟨fun _ => ⟨rfl, x06⟩, fun h => absurd rfl h⟩, fun h => absurd rfl h⟩, fun h => absurd rfl h⟩
  · refine ⟨_, _, a, b, true, rfl, fun w2 n2 => ⟨rfl, (Blk.new n2).canSetN 0 4 (by simp), fun w3 hs3 => ?_⟩⟩
    have x13 := fresh4 n2 hs3 rfl
    have hb3 := hs3.blk (Blk.new n2)
    simp only [setsL, List.set_cons_zero, List.set_cons_succ] at hb3
    refine ⟨(frameT_spec k ((P.s.ext x01).ext x13)).mono ?_⟩
    rintro e w4 ⟨x34, ⟨hbad, _⟩ | ⟨A', f', C', a', b', hL', hkA', _, rfl, td'⟩⟩
    · rw [hL, List.length_append, List.length_cons] at hbad; omega
    obtain ⟨rfl, rfl⟩ : f = f' ∧ A = A' := by
      rw [hL] at hL'
      obtain ⟨h1, h2⟩ := List.append_inj hL' (by omega)
      injection h2 with h2 _
      exact ⟨h2, h1⟩
    refine ⟨_, _, a', b', true, rfl, fun w5 n5 => ⟨rfl, (Blk.new n5).canSetN 0 4 (by simp), fun w6 hs6 => ?_⟩⟩
    have x46 := fresh4 n5 hs6 rfl
    have hb6 := hs6.blk (Blk.new n5)
    simp only [setsL, List.set_cons_zero, List.set_cons_succ] at hb6
    have x36 : Ext w3 w6 := x34.trans x46
    have x06 : Ext w w6 := (x01.trans x13).trans x36
    have h6 := (hQ.ext x06).at_
    have hr6 := h6.hd
    simp only [hr6.cell, List.getElem?_cons_zero, List.getElem?_cons_succ, ex_sl, Value.int.injEq, Value.bool.injEq, Value.pointer.injEq, Value.string.injEq, eq_self, true_and, and_true, decide_eq_true_eq, decide_eq_false_iff_not, gd_st, gd_sf, exists_eq_left', exists_eq_left, Option.some.injEq, Sl.eta, Nat.reduceLeDiff, Int.reduceLE, Int.reduceLT, Int.reduceEq, Int.reduceNe, Nat.reduceMul, Nat.reduceAdd, Nat.reduceSub, Int.toNat_natCast, beq_iff_eq, bne_iff_ne, beq_eq_false_iff_ne, bne_eq_false_iff_eq, pick_and, pick_or, Bool.and_eq_true, Bool.or_eq_true, Bool.and_eq_false_iff, Bool.or_eq_false_iff, ne_eq, not_false_eq_true, Bool.not_eq_true', Bool.not_eq_false', reduceCtorEq, Nat.le_refl, Nat.zero_mul, Nat.mul_one, Nat.zero_add, Int.reduceToNat, ones, one, add_mk, Decidable.not_not, cond_true, cond_false, true_implies, false_implies, implies_true, Bool.not_true, Bool.not_false]
    have hkn : ¬ (k < 0 ∨ (L.length : Int) ≤ k) := by rw [hL, List.length_append, List.length_cons]; omega
    refine ⟨fun b w' => w' = w6 ∧ b = false, ⟨fun h0 => ⟨rfl, by rw [hQl]; simp; omega⟩, fun h0 => by omega⟩, ?_⟩
    rintro _ b0 w' ⟨rfl, rfl⟩
    refine ⟨fun h => (by cases h), fun _ => ?_⟩
    simp only [hr6.cell, List.getElem?_cons_zero, List.getElem?_cons_succ, ex_sl, Value.int.injEq, Value.bool.injEq, Value.pointer.injEq, Value.string.injEq, eq_self, true_and, and_true, decide_eq_true_eq, decide_eq_false_iff_not, gd_st, gd_sf, exists_eq_left', exists_eq_left, Option.some.injEq, Sl.eta, Nat.reduceLeDiff, Int.reduceLE, Int.reduceLT, Int.reduceEq, Int.reduceNe, Nat.reduceMul, Nat.reduceAdd, Nat.reduceSub, Int.toNat_natCast, beq_iff_eq, bne_iff_ne, beq_eq_false_iff_ne, bne_eq_false_iff_eq, pick_and, pick_or, Bool.and_eq_true, Bool.or_eq_true, Bool.and_eq_false_iff, Bool.or_eq_false_iff, ne_eq, not_false_eq_true, Bool.not_eq_true', Bool.not_eq_false', reduceCtorEq, Nat.le_refl, Nat.zero_mul, Nat.mul_one, Nat.zero_add, Int.reduceToNat, ones, one, add_mk, Decidable.not_not, cond_true, cond_false, true_implies, false_implies, implies_true, Bool.not_true, Bool.not_false]
    -- the document's frame
    obtain ⟨QA, t, QC, rfl, hkQ⟩ : ∃ QA t QC, Q = QA ++ t :: QC ∧ k = (QA.length : Int) := by
      rcases qsplit Q k with h | h
      · rw [← hQL, List.length_map] at hkn; exact absurd h hkn
      · exact h
    have ht : t.1 = f := by
      rw [hL, List.map_append, List.map_cons] at hQL
      obtain ⟨_, h2⟩ := List.append_inj hQL (by rw [List.length_map]; omega)
      injection h2
    obtain ⟨r, hr, hc⟩ := h6.base
    have hls := h6.ls t (by simp)
    have hops := h6.ops t (by simp)
    rw [ht] at hls hops
    have hl6 := h6.len
    rw [List.length_append, List.length_cons] at hl6
    have a1 := hok.ls
    have a2 := hok.ops
    have a3 := hok.hi
    have cell : ∀ j v, (rrow t)[j]? = some v → w'.cell? (Addr.add (Addr.add ⟨r, 0, none⟩ (k.toNat * 5)) j) = some v := fun j v hv => by
      rw [add_mk, add_mk, hkQ, Int.toNat_natCast, Nat.zero_add]; exact hc j v hv
    refine ⟨by omega, by omega, _, hr, (t.1.fn : Nat), (t.1.at_ : Nat), t.2.1, (t.1.hi : Nat), t.2.2, rfl, ⟨cell 0 _ rfl, cell 1 _ rfl, cell 2 _ rfl, cell 3 _ rfl, cell 4 _ rfl⟩, fun w7 n7 => ⟨rfl, (Blk.new n7).canSetN 0 5 (by simp), fun w8 hs8 => ?_⟩⟩
    have x68 := fresh4 n7 hs8 rfl
    have hb8 := hs8.blk (Blk.new n7)
    simp only [setsL, List.set_cons_zero, List.set_cons_succ] at hb8
    have T1 := hb3.ext (x36.trans x68)
    have T2 := hb6.ext x68
    have oa := td.ls.ext ((x13.trans x36).trans x68)
    have ob := td.ops.ext ((x13.trans x36).trans x68)
    have oa' := td'.ls.ext (x46.trans x68)
    have ob' := td'.ops.ext (x46.trans x68)
    have ol := hls.ext x68
    have oo := hops.ext x68
    rw [ht] at hb8
    have x08 : Ext w w8 := x06.trans x68
    simp only [T1.cell, T2.cell, hb8.cell, List.getElem?_cons_zero, List.getElem?_cons_succ, ex_sl, Value.int.injEq, Value.bool.injEq, Value.pointer.injEq, Value.string.injEq, eq_self, true_and, and_true, decide_eq_true_eq, decide_eq_false_iff_not, gd_st, gd_sf, exists_eq_left', exists_eq_left, Option.some.injEq, Sl.eta, Nat.reduceLeDiff, Int.reduceLE, Int.reduceLT, Int.reduceEq, Int.reduceNe, Nat.reduceMul, Nat.reduceAdd, Nat.reduceSub, Int.toNat_natCast, beq_iff_eq, bne_iff_ne, beq_eq_false_iff_ne, bne_eq_false_iff_eq, pick_and, pick_or, Bool.and_eq_true, Bool.or_eq_true, Bool.and_eq_false_iff, Bool.or_eq_false_iff, ne_eq, not_false_eq_true, Bool.not_eq_true', Bool.not_eq_false', reduceCtorEq, Nat.le_refl, Nat.zero_mul, Nat.mul_one, Nat.zero_add, Int.reduceToNat, ones, one, add_mk, Decidable.not_not, cond_true, cond_false, true_implies, false_implies, implies_true, Bool.not_true, Bool.not_false]
    refine ⟨⟨⟨⟨⟨(same_spec oa.rd ol.rd (by omega)).mono ?_⟩, fun h => (h trivial).elim⟩, fun h => (h trivial).elim⟩, fun h => (h trivial).elim⟩, fun h => (h trivial).elim⟩
    rintro e w9 ⟨rfl, x9⟩
    have T1 := T1.ext x9
    have T2 := T2.ext x9
    have T3 := hb8.ext x9
    refine ⟨_, rfl, fun _ => ?_, fun h => by cases h⟩
    simp only [T1.cell, T2.cell, T3.cell, List.getElem?_cons_zero, List.getElem?_cons_succ, ex_sl, Value.int.injEq, Value.bool.injEq, Value.pointer.injEq, Value.string.injEq, eq_self, true_and, and_true, decide_eq_true_eq, decide_eq_false_iff_not, gd_st, gd_sf, exists_eq_left', exists_eq_left, Option.some.injEq, Sl.eta, Nat.reduceLeDiff, Int.reduceLE, Int.reduceLT, Int.reduceEq, Int.reduceNe, Nat.reduceMul, Nat.reduceAdd, Nat.reduceSub, Int.toNat_natCast, beq_iff_eq, bne_iff_ne, beq_eq_false_iff_ne, bne_eq_false_iff_eq, pick_and, pick_or, Bool.and_eq_true, Bool.or_eq_true, Bool.and_eq_false_iff, Bool.or_eq_false_iff, ne_eq, not_false_eq_true, Bool.not_eq_true', Bool.not_eq_false', reduceCtorEq, Nat.le_refl, Nat.zero_mul, Nat.mul_one, Nat.zero_add, Int.reduceToNat, ones, one, add_mk, Decidable.not_not, cond_true, cond_false, true_implies, false_implies, implies_true, Bool.not_true, Bool.not_false]
    refine ⟨(same_spec (ob.ext x9).rd (oo.ext x9).rd (by omega)).mono ?_⟩
    rintro e w10 ⟨rfl, x10⟩
    have T1 := T1.ext x10
    have T2 := T2.ext x10
    have T3 := T3.ext x10
    have x810 := x9.trans x10
    have oa := oa.ext x810
    have ob := ob.ext x810
    have oa' := oa'.ext x810
    have ob' := ob'.ext x810
    have ol := ol.ext x810
    have oo := oo.ext x810
    have nla := oa.rd.lenu
    have nlb := ob.rd.lenu
    refine ⟨_, rfl, fun h => (by cases h), fun _ => ?_⟩
    simp only [T1.cell, T2.cell, T3.cell, List.getElem?_cons_zero, List.getElem?_cons_succ, ex_sl, Value.int.injEq, Value.bool.injEq, Value.pointer.injEq, Value.string.injEq, eq_self, true_and, and_true, decide_eq_true_eq, decide_eq_false_iff_not, gd_st, gd_sf, exists_eq_left', exists_eq_left, Option.some.injEq, Sl.eta, Nat.reduceLeDiff, Int.reduceLE, Int.reduceLT, Int.reduceEq, Int.reduceNe, Nat.reduceMul, Nat.reduceAdd, Nat.reduceSub, Int.toNat_natCast, beq_iff_eq, bne_iff_ne, beq_eq_false_iff_ne, bne_eq_false_iff_eq, pick_and, pick_or, Bool.and_eq_true, Bool.or_eq_true, Bool.and_eq_false_iff, Bool.or_eq_false_iff, ne_eq, not_false_eq_true, Bool.not_eq_true', Bool.not_eq_false', reduceCtorEq, Nat.le_refl, Nat.zero_mul, Nat.mul_one, Nat.zero_add, Int.reduceToNat, ones, one, add_mk, Decidable.not_not, cond_true, cond_false, true_implies, false_implies, implies_true, Bool.not_true, Bool.not_false]
    refine ⟨(full_spec 77 oa (by omega)).mono ?_⟩
    rintro e w11 ⟨⟨v, rfl⟩, u11⟩
    -- what stands apart from the first telling
    have s1 := x01.size
    have s3 : w1.heap.size ≤ w3.heap.size := x13.size
    have new1 : ∀ p, a.a = some p → w.heap.size ≤ p.block ∧ p.block < w1.heap.size := fun p hp => td.ls.base p hp
    have new2 : ∀ p, b.a = some p → w.heap.size ≤ p.block ∧ p.block < w1.heap.size := fun p hp => td.ops.base p hp
    have old : ∀ s ∈ sls (QA ++ t :: QC), ∀ p, s.a = some p → p.block < w.heap.size := fun s hs p hp => hQ.lt _ (hQ.g3 s hs p hp)
    have T1 := T1.upd u11 (fun ⟨p, hp, e⟩ => own_blk_ne oa T1 (by decide) p hp e.symm)
    have T2 := T2.upd u11 (fun ⟨p, hp, e⟩ => own_blk_ne oa T2 (by decide) p hp e.symm)
    have T3 := T3.upd u11 (fun ⟨p, hp, e⟩ => own_blk_ne oa T3 (by decide) p hp e.symm)
    have ob := ob.upd u11 (fun q hq ⟨p, hp, e⟩ => td.apart p q hp hq e.symm)
    have oa' := oa'.upd u11 (fun q hq ⟨p, hp, e⟩ => by have := (td'.ls.base q hq).1; have := (new1 p hp).2; omega)
    have ob' := ob'.upd u11 (fun q hq ⟨p, hp, e⟩ => by have := (td'.ops.base q hq).1; have := (new1 p hp).2; omega)
    have ol := ol.upd u11 (fun q hq ⟨p, hp, e⟩ => by have := old _ (sls_mem (t := t) (by simp)).1 q hq; have := (new1 p hp).1; omega)
    have oo := oo.upd u11 (fun q hq ⟨p, hp, e⟩ => by have := old _ (sls_mem (t := t) (by simp)).2 q hq; have := (new1 p hp).1; omega)
    refine ⟨_, rfl, ?_⟩
    simp only [T1.cell, T2.cell, T3.cell, List.getElem?_cons_zero, List.getElem?_cons_succ, ex_sl, Value.int.injEq, Value.bool.injEq, Value.pointer.injEq, Value.string.injEq, eq_self, true_and, and_true, decide_eq_true_eq, decide_eq_false_iff_not, gd_st, gd_sf, exists_eq_left', exists_eq_left, Option.some.injEq, Sl.eta, Nat.reduceLeDiff, Int.reduceLE, Int.reduceLT, Int.reduceEq, Int.reduceNe, Nat.reduceMul, Nat.reduceAdd, Nat.reduceSub, Int.toNat_natCast, beq_iff_eq, bne_iff_ne, beq_eq_false_iff_ne, bne_eq_false_iff_eq, pick_and, pick_or, Bool.and_eq_true, Bool.or_eq_true, Bool.and_eq_false_iff, Bool.or_eq_false_iff, ne_eq, not_false_eq_true, Bool.not_eq_true', Bool.not_eq_false', reduceCtorEq, Nat.le_refl, Nat.zero_mul, Nat.mul_one, Nat.zero_add, Int.reduceToNat, ones, one, add_mk, Decidable.not_not, cond_true, cond_false, true_implies, false_implies, implies_true, Bool.not_true, Bool.not_false]
    refine ⟨(full_spec 78 ob (by omega)).mono ?_⟩
    rintro e w12 ⟨⟨v, rfl⟩, u12⟩
    have T1 := T1.upd u12 (fun ⟨p, hp, e⟩ => own_blk_ne ob T1 (by decide) p hp e.symm)
    have T2 := T2.upd u12 (fun ⟨p, hp, e⟩ => own_blk_ne ob T2 (by decide) p hp e.symm)
    have T3 := T3.upd u12 (fun ⟨p, hp, e⟩ => own_blk_ne ob T3 (by decide) p hp e.symm)
    have oa' := oa'.upd u12 (fun q hq ⟨p, hp, e⟩ => by have := (td'.ls.base q hq).1; have := (new2 p hp).2; omega)
    have ob' := ob'.upd u12 (fun q hq ⟨p, hp, e⟩ => by have := (td'.ops.base q hq).1; have := (new2 p hp).2; omega)
    have ol := ol.upd u12 (fun q hq ⟨p, hp, e⟩ => by have := old _ (sls_mem (t := t) (by simp)).1 q hq; have := (new2 p hp).1; omega)
    have oo := oo.upd u12 (fun q hq ⟨p, hp, e⟩ => by have := old _ (sls_mem (t := t) (by simp)).2 q hq; have := (new2 p hp).1; omega)
    have x012 : Ext w w12 := ((x08.trans x810).fresh u11 (by rintro i ⟨p, hp, rfl⟩; exact (new1 p hp).1)).fresh u12 (by rintro i ⟨p, hp, rfl⟩; exact (new2 p hp).1)
    refine ⟨_, rfl, ?_⟩
    simp only [T1.cell, T2.cell, T3.cell, List.getElem?_cons_zero, List.getElem?_cons_succ, ex_sl, Value.int.injEq, Value.bool.injEq, Value.pointer.injEq, Value.string.injEq, eq_self, true_and, and_true, decide_eq_true_eq, decide_eq_false_iff_not, gd_st, gd_sf, exists_eq_left', exists_eq_left, Option.some.injEq, Sl.eta, Nat.reduceLeDiff, Int.reduceLE, Int.reduceLT, Int.reduceEq, Int.reduceNe, Nat.reduceMul, Nat.reduceAdd, Nat.reduceSub, Int.toNat_natCast, beq_iff_eq, bne_iff_ne, beq_eq_false_iff_ne, bne_eq_false_iff_eq, pick_and, pick_or, Bool.and_eq_true, Bool.or_eq_true, Bool.and_eq_false_iff, Bool.or_eq_false_iff, ne_eq, not_false_eq_true, Bool.not_eq_true', Bool.not_eq_false', reduceCtorEq, Nat.le_refl, Nat.zero_mul, Nat.mul_one, Nat.zero_add, Int.reduceToNat, ones, one, add_mk, Decidable.not_not, cond_true, cond_false, true_implies, false_implies, implies_true, Bool.not_true, Bool.not_false]
    refine ⟨(same_spec oa'.rd ol.rd (by omega)).mono ?_⟩
    rintro e w13 ⟨rfl, x13'⟩
    have T1 := T1.ext x13'
    have T2 := T2.ext x13'
    have T3 := T3.ext x13'
    refine ⟨_, rfl, ?_⟩
    simp only [T1.cell, T2.cell, T3.cell, List.getElem?_cons_zero, List.getElem?_cons_succ, ex_sl, Value.int.injEq, Value.bool.injEq, Value.pointer.injEq, Value.string.injEq, eq_self, true_and, and_true, decide_eq_true_eq, decide_eq_false_iff_not, gd_st, gd_sf, exists_eq_left', exists_eq_left, Option.some.injEq, Sl.eta, Nat.reduceLeDiff, Int.reduceLE, Int.reduceLT, Int.reduceEq, Int.reduceNe, Nat.reduceMul, Nat.reduceAdd, Nat.reduceSub, Int.toNat_natCast, beq_iff_eq, bne_iff_ne, beq_eq_false_iff_ne, bne_eq_false_iff_eq, pick_and, pick_or, Bool.and_eq_true, Bool.or_eq_true, Bool.and_eq_false_iff, Bool.or_eq_false_iff, ne_eq, not_false_eq_true, Bool.not_eq_true', Bool.not_eq_false', reduceCtorEq, Nat.le_refl, Nat.zero_mul, Nat.mul_one, Nat.zero_add, Int.reduceToNat, ones, one, add_mk, Decidable.not_not, cond_true, cond_false, true_implies, false_implies, implies_true, Bool.not_true, Bool.not_false]
    refine ⟨(same_spec (ob'.ext x13').rd (oo.ext x13').rd (by omega)).mono ?_⟩
    rintro e w14 ⟨rfl, x14⟩
    exact ⟨_, rfl, rfl, (x012.trans x13').trans x14⟩
end Go.Proofs.Ytodbmiflnellcaa.V
