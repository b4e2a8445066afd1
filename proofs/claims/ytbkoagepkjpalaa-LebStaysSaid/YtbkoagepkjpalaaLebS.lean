/-
  The laws LebStays and LebReads: the walks.
-/
import Derived.Test.YtbkoagepkjpalaaLebR
import Derived.Test.YtbkoagepkjpalaaLebA
import Derived.Test.YtbkoagepkjpalaaRow
namespace Go.Proofs.Ytbkoagepkjpalaa.V
open Go Go.RowKit
set_option linter.unusedVariables false
set_option linter.unusedSimpArgs false

theorem RS.fail_stays (s : RS) (a e : Int) (h : s.er ≠ 0) : s.fail a e = s := by rw [RS.fail, if_neg (by simp [h])]
theorem RS.byte_stays (s : RS) (bs : List Nat) (h : s.er ≠ 0) : s.byte bs = (0, s) := by rw [RS.byte, if_pos h]
theorem RS.uint_stays (s : RS) (bs : List Nat) (m : Nat) (e : Int) (h : s.er ≠ 0) : s.uint bs m e = (0, s) := by rw [RS.uint, if_pos h]
theorem RS.int_stays (s : RS) (bs : List Nat) (h : s.er ≠ 0) : s.int bs = (0, s) := by rw [RS.int, RS.uint_stays s bs 0 0 h]; simp [unfold_]
theorem kind4 (n : Int) (h0 : -9223372036854775808 ≤ n) (h1 : n ≤ 9223372036854775807) : (IntKind.i64.wrap (n.tmod 4 + 4)).tmod 4 = 0 ∨ (IntKind.i64.wrap (n.tmod 4 + 4)).tmod 4 = 1 ∨ (IntKind.i64.wrap (n.tmod 4 + 4)).tmod 4 = 2 ∨ (IntKind.i64.wrap (n.tmod 4 + 4)).tmod 4 = 3 := by
  have a : -4 < n.tmod 4 := Int.lt_tmod_of_pos n (by decide)
  have b : n.tmod 4 < 4 := Int.tmod_lt_of_pos n (by decide)
  rw [wrap_i64 (by omega) (by omega), Int.tmod_eq_emod_of_nonneg (by omega)]
  omega
/-- an element of a script of calls -/
theorem ask_at {w : World} {v : Value} {x : (Dt.sl 32 (.cons (.int .i64) (.cons (.int .u64) (.cons (.int .i64) (.cons (.int .i64) .nil))))).T}
    (h : (Dt.sl 32 (.cons (.int .i64) (.cons (.int .u64) (.cons (.int .i64) (.cons (.int .i64) .nil))))).Is w v x) : v = .slice x.1.a x.1.n x.1.c ∧ x.1.n ≤ x.1.c ∧ x.1.n ≤ 4398046511104 ∧
    ∀ i, i < x.1.n → ∃ (p : Addr) (k : Int) (n : Nat) (a e : Int), x.1.a = some p ∧ -9223372036854775808 ≤ k ∧ k ≤ 9223372036854775807 ∧ n < 18446744073709551616 ∧
      w.cell? ((p.add (i * 4)).add 0) = some (.int .i64 k) ∧ w.cell? ((p.add (i * 4)).add 1) = some (.int .u64 n) ∧ w.cell? ((p.add (i * 4)).add 2) = some (.int .i64 a) ∧ w.cell? ((p.add (i * 4)).add 3) = some (.int .i64 e) := by
  simp only [Dt.Is] at h
  obtain ⟨h1, h2, h3, h4, h5, h6, h7⟩ := h
  rw [reach_eq] at h5
  refine ⟨h1, h3, by omega, fun i hi => ?_⟩
  obtain ⟨y, hy⟩ : ∃ y, x.2[i]? = some y := ⟨_, List.getElem?_eq_getElem (by omega)⟩
  obtain ⟨p, vs, hp, ha, hl, hi'⟩ := h7 i y hy
  simp only [Rw.Is, Dt.Is] at hi'
  obtain ⟨_, _, rfl, ⟨rfl, w0⟩, _, _, rfl, ⟨rfl, w1⟩, _, _, rfl, ⟨rfl, w2⟩, _, _, rfl, ⟨rfl, w3⟩, rfl⟩ := hi'
  have b0 := wf_i64 w0
  have b1 := wf_u64 w1
  refine ⟨p, y.1, Int.toNat y.2.1, y.2.2.1, y.2.2.2.1, hp, b0.1, b0.2, by omega, ha 0 _ rfl, ?_, ha 2 _ rfl, ha 3 _ rfl⟩
  rw [Int.toNat_of_nonneg b1.1]
  exact ha 1 _ rfl

theorem lebstays_walk (w : World) (v0 v1 v2 v3 : Value) (x0 : (Par.one (.sl 1 (.cons (.int .u8) (.nil)))).T) (x1 x2 : Int)
    (x3 : (Par.one (.sl 32 (.cons (.int .i64) (.cons (.int .u64) (.cons (.int .i64) (.cons (.int .i64) (.nil))))))).T) (h0 : (Par.one (.sl 1 (.cons (.int .u8) (.nil)))).Is w v0 x0)
    (h1 : (Par.one (.int .i64)).Is w v1 x1) (h2 : (Par.one (.int .i64)).Is w v2 x2) (h3 : (Par.one (.sl 32 (.cons (.int .i64) (.cons (.int .u64) (.cons (.int .i64) (.cons (.int .i64) (.nil))))))).Is w v3 x3) :
    Calls Try.prog 8 #[v0, v1, v2, v3] w fun e w' => e = .returned (.bool true) ∧ Ext w w' := by
  obtain ⟨rfl, hcap, hl, _, bs, hr, h8⟩ := is_bytes h0
  obtain ⟨rfl, _⟩ := h1
  obtain ⟨rfl, _⟩ := h2
  obtain ⟨rfl, hcap3, hl3, hat⟩ := ask_at h3
  obtain ⟨s, l0⟩ := x0
  obtain ⟨t, l3⟩ := x3
  dsimp only at *
  have hxl := hr.lenb
  refine vcy_8 s x1 x2 t _ _ ?_
  simp only [eq_self, true_and, and_true, decide_eq_true_eq, decide_eq_false_iff_not, gd_st, gd_sf, exists_eq_left', exists_eq_left, Option.some.injEq, Sl.eta, Nat.reduceLeDiff, Int.reduceLE, Int.reduceLT, Int.reduceEq, Int.reduceNe, Nat.reduceMul, Nat.reduceAdd, Nat.reduceSub, Int.toNat_natCast, beq_iff_eq, bne_iff_ne, beq_eq_false_iff_ne, bne_eq_false_iff_eq, pick_and, pick_or, Bool.and_eq_true, Bool.or_eq_true, Bool.and_eq_false_iff, Bool.or_eq_false_iff, ne_eq, not_false_eq_true, Bool.not_eq_true', Bool.not_eq_false', reduceCtorEq, Nat.le_refl, Nat.zero_mul, Nat.mul_one, Nat.zero_add, Int.reduceToNat, ones, one, add_mk, Decidable.not_not, cond_true, cond_false, true_implies, false_implies, implies_true, Bool.not_true, Bool.not_false]
  refine ⟨(shown_spec w).mono ?_⟩
  rintro e w1 ⟨rfl, x1'⟩
  refine ⟨_, rfl, ⟨(newreader_spec s bs w1 (hr.ext x1') (by omega) h8).mono ?_⟩⟩
  rintro e w2 ⟨g, sl, rfl, hrd, x2'⟩
  refine ⟨_, rfl, fun _ => ⟨fun _ => ⟨fun h => ⟨fun _ => ⟨rfl, (by repeat' (first | assumption | exact Ext.refl _ | refine Ext.trans ?_ (by assumption) | refine Ext.trans ?_ (Qt.ext (by assumption)) | refine Ext.trans ?_ (NewW.ext (by assumption))))⟩, fun h => by simp at h⟩, fun he => ?_⟩, fun h => by simp at h⟩, fun h => by simp at h⟩
  have hg : w.heap.size ≤ g := Nat.le_trans x1'.size hrd.base
  have x02 : Ext w w2 := (by repeat' (first | assumption | exact Ext.refl _ | refine Ext.trans ?_ (by assumption) | refine Ext.trans ?_ (Qt.ext (by assumption)) | refine Ext.trans ?_ (NewW.ext (by assumption))))
  have next : ∀ {a b : World}, Ext w a → Upd (· = g) a b → Ext w b := fun ha hb => ha.fresh hb (by rintro i rfl; exact hg)
  refine ⟨(byte_spec hrd).mono ?_⟩
  rintro e w3 ⟨rfl, hrd3, u3⟩
  refine ⟨_, rfl, ⟨(fail_spec x1 x2 hrd3).mono ?_⟩⟩
  rintro e w4 ⟨rfl, hrd4, u4⟩
  refine ⟨_, rfl, ⟨(fault_spec hrd4).mono ?_⟩⟩
  rintro e w5 ⟨rfl, q5⟩
  have hrd5 := hrd4.ext q5.ext
  have x5 : Ext w w5 := (next (next x02 u3) u4).trans q5.ext
  refine ⟨_, _, rfl, ⟨(at_spec hrd5).mono ?_⟩⟩
  rintro e w6 ⟨rfl, q6⟩
  have hrd6 := hrd5.ext q6.ext
  have x6 : Ext w w6 := x5.trans q6.ext
  refine ⟨_, rfl, ?_⟩
  -- the fault
  have hfault : ((RS.byte bs ⟨0, 0, 0⟩).2.fail x1 x2).er ≠ 0 ∧ (bs.length ≠ 0 → ((RS.byte bs ⟨0, 0, 0⟩).2.fail x1 x2).pl = x1 ∧ ((RS.byte bs ⟨0, 0, 0⟩).2.fail x1 x2).er = x2) := by
    rw [RS.byte, if_neg (by simp)]
    by_cases hb0 : bs.length = 0
    · rw [if_neg (by dsimp only; omega), RS.fail, if_neg (by simp)]
      exact ⟨by simp, fun h => (h hb0).elim⟩
    · rw [if_pos (by dsimp only; omega), RS.fail, if_pos (by simp [he])]
      exact ⟨he, fun _ => ⟨rfl, rfl⟩⟩
  generalize (RS.byte bs ⟨0, 0, 0⟩).2.fail x1 x2 = S at *
  refine ⟨fun n w' => ∃ i : Nat, n = i ∧ i ≤ t.n ∧ Ext w w' ∧ Rdr w' w1.heap.size g bs S sl, fun n _ => (t.n - n).toNat, ⟨0, rfl, by omega, x6, hrd6⟩, ?_⟩
  rintro _ n w7 ⟨i, rfl, hi, x7, hrd7⟩
  refine ⟨fun hlt => ?_, fun hge => ?_⟩
  · obtain ⟨p, k, m, a, f, hp, k0, k1, hm, c0, c1, c2, c3⟩ := hat i (by omega)
    refine ⟨by omega, by omega, p, hp, k, m, a, f, rfl, ?_, ?_⟩
    · rw [Int.toNat_natCast]
      exact ⟨x7.cell c0 not_false, x7.cell c1 not_false, x7.cell c2 not_false, x7.cell c3 not_false⟩
    intro w8 n8
    have b8 := Blk.new n8
    refine ⟨rfl, b8.canSetN 0 4 (by simp), fun w9 h9 => ?_⟩
    have b9 := h9.blk b8
    have x79 : Ext w7 w9 := n8.ext.fresh h9.upd (by rintro j rfl; exact Nat.le_refl _)
    have hrd9 := hrd7.ext x79
    have x9 : Ext w w9 := x7.trans x79
    refine ⟨fun w' => Ext w w' ∧ Rdr w' w1.heap.size g bs S sl, ?_, ?_⟩
    · change Blk w9 w7.heap.size _ [.int .i64 k, .int .u64 m, .int .i64 a, .int .i64 f] at b9
      simp only [b9.cell, List.getElem?_cons_zero, List.getElem?_cons_succ, ex_sl, Value.int.injEq, Value.bool.injEq, Value.pointer.injEq, Value.string.injEq, eq_self, true_and, and_true, decide_eq_true_eq, decide_eq_false_iff_not, gd_st, gd_sf, exists_eq_left', exists_eq_left, Option.some.injEq, Sl.eta, Nat.reduceLeDiff, Int.reduceLE, Int.reduceLT, Int.reduceEq, Int.reduceNe, Nat.reduceMul, Nat.reduceAdd, Nat.reduceSub, Int.toNat_natCast, beq_iff_eq, bne_iff_ne, beq_eq_false_iff_ne, bne_eq_false_iff_eq, pick_and, pick_or, Bool.and_eq_true, Bool.or_eq_true, Bool.and_eq_false_iff, Bool.or_eq_false_iff, ne_eq, not_false_eq_true, Bool.not_eq_true', Bool.not_eq_false', reduceCtorEq, Nat.le_refl, Nat.zero_mul, Nat.mul_one, Nat.zero_add, Int.reduceToNat, ones, one, add_mk, Decidable.not_not, cond_true, cond_false, true_implies, false_implies, implies_true, Bool.not_true, Bool.not_false]
      refine ⟨fun _ => ⟨(byte_spec hrd9).mono ?_⟩, fun _ => ⟨fun _ => ⟨(uint_spec m f hrd9).mono ?_⟩, fun _ => ⟨fun _ => ⟨(int_spec hrd9).mono ?_⟩, fun _ => ⟨fun _ => ⟨(fail_spec a f hrd9).mono ?_⟩, fun _ => ⟨x9, hrd9⟩⟩⟩⟩⟩
      · rintro e wa ⟨rfl, ha, ua⟩
        rw [RS.byte_stays _ _ hfault.1] at ha ⊢
        exact ⟨_, rfl, fun h => (h rfl).elim, fun _ => ⟨next x9 ua, ha⟩⟩
      · rintro e wa ⟨rfl, ha, ua⟩
        rw [RS.uint_stays _ _ _ _ hfault.1] at ha ⊢
        exact ⟨_, rfl, fun h => (h rfl).elim, fun _ => ⟨next x9 ua, ha⟩⟩
      · rintro e wa ⟨rfl, ha, ua⟩
        rw [RS.int_stays _ _ hfault.1] at ha ⊢
        exact ⟨_, rfl, fun h => (h rfl).elim, fun _ => ⟨next x9 ua, ha⟩⟩
      · rintro e wa ⟨rfl, ha, ua⟩
        rw [RS.fail_stays _ _ _ hfault.1] at ha
        exact ⟨_, rfl, next x9 ua, ha⟩
    · rintro _ wb ⟨xb, hrdb⟩
      refine ⟨(fault_spec hrdb).mono ?_⟩
      rintro e wc ⟨rfl, qc⟩
      refine ⟨_, _, rfl, fun _ => ⟨fun _ => ⟨(at_spec (hrdb.ext qc.ext)).mono ?_⟩, fun h => (h rfl).elim⟩, fun h => (h rfl).elim⟩
      rintro e wd ⟨rfl, qd⟩
      refine ⟨_, rfl, fun _ => ⟨(left_spec ((hrdb.ext qc.ext).ext qd.ext)).mono ?_⟩, fun h => (h rfl).elim⟩
      rintro e we ⟨rfl, qe⟩
      have hpos := hrdb.pos
      have hrde := ((hrdb.ext qc.ext).ext qd.ext).ext qe.ext
      rw [wrap_i64 (n := (s.n : Int) - S.k) (by omega) (by omega)]
      refine ⟨_, rfl, fun h => by omega, fun _ => ⟨⟨i + 1, by rw [wrap_i64 (by omega) (by omega)]; push_cast; rfl, by omega, (by repeat' (first | assumption | exact Ext.refl _ | refine Ext.trans ?_ (by assumption) | refine Ext.trans ?_ (Qt.ext (by assumption)) | refine Ext.trans ?_ (NewW.ext (by assumption)))), hrde⟩, by rw [wrap_i64 (by omega) (by omega)]; dsimp only; omega⟩⟩
  · refine ⟨fun _ => ⟨fun hs => ⟨fun _ => ⟨?_, x7⟩, fun h => (h (hfault.2 (by omega)).1).elim⟩, fun _ => x7⟩, fun h => (hfault.1 h).elim⟩
    rw [(hfault.2 (by omega)).2]
    simp

theorem asked_spec {w : World} {B B' g g' : Nat} {bs : List Nat} {s : RS} {sl sl' : Sl} (h : Rdr w B g bs s sl) (h' : RRd w B' g' bs s sl') (hne : g ≠ g') (o1 : sl.off (· = g')) (o2 : sl'.off (· = g))
    (k : Int) (m : Nat) (a f : Int) :
    Calls Try.prog 26 #[.pointer (some ⟨g, 0, none⟩), .pointer (some ⟨g', 0, none⟩), .agg #[.int .i64 k, .int .u64 m, .int .i64 a, .int .i64 f]] w fun en w' =>
      en = .returned (.bool true) ∧ ∃ s', Rdr w' B g bs s' sl ∧ RRd w' B' g' bs s' sl' ∧ Upd (fun i => i = g ∨ i = g') w w' := by
  refine vcy_26 _ _ _ _ _ _ _ _ ?_
  simp only [eq_self, true_and, and_true, decide_eq_true_eq, decide_eq_false_iff_not, gd_st, gd_sf, exists_eq_left', exists_eq_left, Option.some.injEq, Sl.eta, Nat.reduceLeDiff, Int.reduceLE, Int.reduceLT, Int.reduceEq, Int.reduceNe, Nat.reduceMul, Nat.reduceAdd, Nat.reduceSub, Int.toNat_natCast, beq_iff_eq, bne_iff_ne, beq_eq_false_iff_ne, bne_eq_false_iff_eq, pick_and, pick_or, Bool.and_eq_true, Bool.or_eq_true, Bool.and_eq_false_iff, Bool.or_eq_false_iff, ne_eq, not_false_eq_true, Bool.not_eq_true', Bool.not_eq_false', reduceCtorEq, Nat.le_refl, Nat.zero_mul, Nat.mul_one, Nat.zero_add, Int.reduceToNat, ones, one, add_mk, Decidable.not_not, cond_true, cond_false, true_implies, false_implies, implies_true, Bool.not_true, Bool.not_false]
  intro w1 n1
  have b1 := Blk.new n1
  have k1 := h.ext n1.ext
  have k1' := h'.ext n1.ext
  have u1 : Upd (fun i => i = g ∨ i = g') w w1 := n1.ext.mono fun _ _ _ => not_false
  have l1 : ∀ {a b : World}, Upd (· = g) a b → Upd (fun i => i = g ∨ i = g') a b := fun u => u.mono fun _ _ hn he => hn (.inl he)
  have l2 : ∀ {a b : World}, Upd (· = g') a b → Upd (fun i => i = g ∨ i = g') a b := fun u => u.mono fun _ _ hn he => hn (.inr he)
  have p1 : ∀ {a b : World} {S : RS}, RRd a B' g' bs S sl' → Upd (· = g) a b → RRd b B' g' bs S sl' := fun hh u => hh.upd u (fun e => hne e.symm) o2
  have p2 : ∀ {a b : World} {S : RS}, Rdr a B g bs S sl → Upd (· = g') a b → Rdr b B g bs S sl := fun hh u => hh.upd u (fun e => hne e) o1
  have hg1 : g ≠ w.heap.size := fun e => by have := h.blk.lt; omega
  have hg2 : g' ≠ w.heap.size := fun e => by have := h'.blk.lt; omega
  refine ⟨fun b w' => b = true ∧ ∃ s', Rdr w' B g bs s' sl ∧ RRd w' B' g' bs s' sl' ∧ Upd (fun i => i = g ∨ i = g') w w', ?_, ?_⟩
  · simp only [b1.cell, List.getElem?_cons_zero, List.getElem?_cons_succ, ex_sl, Value.int.injEq, Value.bool.injEq, Value.pointer.injEq, Value.string.injEq, eq_self, true_and, and_true, decide_eq_true_eq, decide_eq_false_iff_not, gd_st, gd_sf, exists_eq_left', exists_eq_left, Option.some.injEq, Sl.eta, Nat.reduceLeDiff, Int.reduceLE, Int.reduceLT, Int.reduceEq, Int.reduceNe, Nat.reduceMul, Nat.reduceAdd, Nat.reduceSub, Int.toNat_natCast, beq_iff_eq, bne_iff_ne, beq_eq_false_iff_ne, bne_eq_false_iff_eq, pick_and, pick_or, Bool.and_eq_true, Bool.or_eq_true, Bool.and_eq_false_iff, Bool.or_eq_false_iff, ne_eq, not_false_eq_true, Bool.not_eq_true', Bool.not_eq_false', reduceCtorEq, Nat.le_refl, Nat.zero_mul, Nat.mul_one, Nat.zero_add, Int.reduceToNat, ones, one, add_mk, Decidable.not_not, cond_true, cond_false, true_implies, false_implies, implies_true, Bool.not_true, Bool.not_false]
    refine ⟨fun _ => ⟨(byte_spec k1).mono ?_⟩, fun _ => ⟨fun _ w2 q2 => ⟨fun i => i = g ∨ i = g', ?_⟩, fun _ => ⟨fun _ => ⟨(int_spec k1).mono ?_⟩, fun _ => ⟨fun _ => ⟨(fail_spec a f k1).mono ?_⟩, fun _ => ⟨s, k1, k1', u1⟩⟩⟩⟩⟩
    · rintro e w2 ⟨rfl, k2, u2⟩
      refine ⟨_, rfl, ⟨(rbyte_spec (p1 k1' u2)).mono ?_⟩⟩
      rintro e w3 ⟨rfl, k3, u3⟩
      exact ⟨_, rfl, by simp, _, p2 k2 u3, k3, (u1.same (l1 u2)).same (l2 u3)⟩
    · have hc : ∀ w', Upd (fun i => i = g ∨ i = g') w2 w' → Blk w' w.heap.size 49 [.int .i64 k, .int .u64 m, .int .i64 a, .int .i64 f] := fun w' u =>
        (b1.ext q2.ext).upd u (fun he => he.elim (fun e => hg1 e.symm) (fun e => hg2 e.symm))
      refine ⟨m, fun w' u => (hc w' u).cell 1, f, fun w' u => (hc w' u).cell 3, m, fun w' u => (hc w' u).cell 1, f, fun w' u => (hc w' u).cell 3, ⟨(uint_spec m f (k1.ext q2.ext)).mono ?_⟩⟩
      rintro e w3 ⟨rfl, k3, u3⟩
      refine ⟨_, rfl, l1 u3, ⟨(ruint_spec m f (p1 (k1'.ext q2.ext) u3)).mono ?_⟩⟩
      rintro e w4 ⟨rfl, k4, u4⟩
      exact ⟨_, rfl, l2 u4, by simp, _, p2 k3 u4, k4, ((u1.ext q2.ext).same (l1 u3)).same (l2 u4)⟩
    · rintro e w2 ⟨rfl, k2, u2⟩
      refine ⟨_, rfl, ⟨(rint_spec (p1 k1' u2)).mono ?_⟩⟩
      rintro e w3 ⟨rfl, k3, u3⟩
      exact ⟨_, rfl, by simp, _, p2 k2 u3, k3, (u1.same (l1 u2)).same (l2 u3)⟩
    · rintro e w2 ⟨rfl, k2, u2⟩
      have b2 := b1.upd u2 (fun e => hg1 e.symm)
      refine ⟨_, rfl, ?_⟩
      simp only [b2.cell, List.getElem?_cons_zero, List.getElem?_cons_succ, ex_sl, Value.int.injEq, Value.bool.injEq, Value.pointer.injEq, Value.string.injEq, eq_self, true_and, and_true, decide_eq_true_eq, decide_eq_false_iff_not, gd_st, gd_sf, exists_eq_left', exists_eq_left, Option.some.injEq, Sl.eta, Nat.reduceLeDiff, Int.reduceLE, Int.reduceLT, Int.reduceEq, Int.reduceNe, Nat.reduceMul, Nat.reduceAdd, Nat.reduceSub, Int.toNat_natCast, beq_iff_eq, bne_iff_ne, beq_eq_false_iff_ne, bne_eq_false_iff_eq, pick_and, pick_or, Bool.and_eq_true, Bool.or_eq_true, Bool.and_eq_false_iff, Bool.or_eq_false_iff, ne_eq, not_false_eq_true, Bool.not_eq_true', Bool.not_eq_false', reduceCtorEq, Nat.le_refl, Nat.zero_mul, Nat.mul_one, Nat.zero_add, Int.reduceToNat, ones, one, add_mk, Decidable.not_not, cond_true, cond_false, true_implies, false_implies, implies_true, Bool.not_true, Bool.not_false]
      refine ⟨(rfail_spec a f (p1 k1' u2)).mono ?_⟩
      rintro e w3 ⟨rfl, k3, u3⟩
      exact ⟨_, rfl, _, p2 k2 u3, k3, (u1.same (l1 u2)).same (l2 u3)⟩
  · rintro _ b w2 ⟨rfl, s', k2, k2', u2⟩
    refine ⟨(fault_spec k2).mono ?_⟩
    rintro e w3 ⟨rfl, q3⟩
    refine ⟨_, _, rfl, ⟨(rfault_spec (k2'.ext q3.ext)).mono ?_⟩⟩
    rintro e w4 ⟨rfl, q4⟩
    refine ⟨_, _, rfl, fun w5 q5 => ⟨fun _ => False, fun _ => ⟨fun _ => ⟨fun _ => ?_, fun h => (h rfl).elim⟩, fun h => (h rfl).elim⟩, fun h => by simp at h⟩⟩
    have x25 : Ext w2 w5 := (by repeat' (first | assumption | exact Ext.refl _ | refine Ext.trans ?_ (by assumption) | refine Ext.trans ?_ (Qt.ext (by assumption)) | refine Ext.trans ?_ (NewW.ext (by assumption))))
    have k5 := k2.ext x25
    have k5' := k2'.ext x25
    have hl' := k5'.len
    have hp := k5'.pos
    have hf := k5'.fit
    refine ⟨s'.k, fun w' u => (k5'.ext u).blk.cell 1, ⟨(at_spec k5).mono ?_⟩⟩
    rintro e w6 ⟨rfl, q6⟩
    have k6 := k5.ext q6.ext
    have k6' := k5'.ext q6.ext
    refine ⟨_, rfl, q6.ext, fun _ => ⟨sl', fun w' u => (k6'.ext u).blk.cell 0, s'.k, fun w' u => (k6'.ext u).blk.cell 1, ⟨(left_spec k6).mono ?_⟩⟩, fun h => (h rfl).elim⟩
    rintro e w7 ⟨rfl, q7⟩
    refine ⟨_, rfl, q7.ext, ?_, s', k6.ext q7.ext, k6'.ext q7.ext, u2.ext (by repeat' (first | assumption | exact Ext.refl _ | refine Ext.trans ?_ (by assumption) | refine Ext.trans ?_ (Qt.ext (by assumption)) | refine Ext.trans ?_ (NewW.ext (by assumption))))⟩
    rw [hl', wrap_i64 (by omega) (by omega)]
    simp

theorem lebreads_walk (w : World) (v0 v1 : Value) (x0 : (Par.one (.sl 1 (.cons (.int .u8) (.nil)))).T) 
    (x3 : (Par.one (.sl 32 (.cons (.int .i64) (.cons (.int .u64) (.cons (.int .i64) (.cons (.int .i64) (.nil))))))).T) (h0 : (Par.one (.sl 1 (.cons (.int .u8) (.nil)))).Is w v0 x0)
    (h3 : (Par.one (.sl 32 (.cons (.int .i64) (.cons (.int .u64) (.cons (.int .i64) (.cons (.int .i64) (.nil))))))).Is w v1 x3) :
    Calls Try.prog 6 #[v0, v1] w fun e w' => e = .returned (.bool true) ∧ Ext w w' := by
  obtain ⟨rfl, hcap, hl, _, bs, hr, h8⟩ := is_bytes h0
  obtain ⟨rfl, hcap3, hl3, hat⟩ := ask_at h3
  obtain ⟨s, l0⟩ := x0
  obtain ⟨t, l3⟩ := x3
  dsimp only at *
  have hxl := hr.lenb
  refine vcy_6 s t _ _ ?_
  simp only [eq_self, true_and, and_true, decide_eq_true_eq, decide_eq_false_iff_not, gd_st, gd_sf, exists_eq_left', exists_eq_left, Option.some.injEq, Sl.eta, Nat.reduceLeDiff, Int.reduceLE, Int.reduceLT, Int.reduceEq, Int.reduceNe, Nat.reduceMul, Nat.reduceAdd, Nat.reduceSub, Int.toNat_natCast, beq_iff_eq, bne_iff_ne, beq_eq_false_iff_ne, bne_eq_false_iff_eq, pick_and, pick_or, Bool.and_eq_true, Bool.or_eq_true, Bool.and_eq_false_iff, Bool.or_eq_false_iff, ne_eq, not_false_eq_true, Bool.not_eq_true', Bool.not_eq_false', reduceCtorEq, Nat.le_refl, Nat.zero_mul, Nat.mul_one, Nat.zero_add, Int.reduceToNat, ones, one, add_mk, Decidable.not_not, cond_true, cond_false, true_implies, false_implies, implies_true, Bool.not_true, Bool.not_false]
  refine ⟨(shown_spec w).mono ?_⟩
  rintro e w1 ⟨rfl, x1⟩
  refine ⟨_, rfl, ⟨(lent_spec s bs w1 (hr.ext x1) (by omega)).mono ?_⟩⟩
  rintro e w2 ⟨L, rfl, hL, hb, x2⟩
  refine ⟨⟨some ⟨L, 0, none⟩, s.n + 8, s.n + 8⟩, rfl, ?_⟩
  have hx0 : ∀ w', Ext w2 w' → Rd w' 1 ⟨some ⟨L, 0, none⟩, s.n, s.n + 8⟩ (bv bs) := by
    intro w' x
    have := (hb.ext x).rd (z := 1) (o := 0) (n := s.n) (c := s.n + 8) (by simp [hxl])
    rw [List.drop_zero, Nat.mul_one, bv_take, ← hxl, List.take_left] at this
    exact hxl ▸ this
  rw [show (if (⟨some ⟨L, 0, none⟩, s.n + 8, s.n + 8⟩ : Sl).c = 0 then (⟨some ⟨L, 0, none⟩, s.n + 8, s.n + 8⟩ : Sl).a else Option.map (fun x => x.add 0) (⟨some ⟨L, 0, none⟩, s.n + 8, s.n + 8⟩ : Sl).a) = some ⟨L, 0, none⟩ from cut0 _]
  refine ⟨by omega, by dsimp only; omega, ⟨(newreader_spec _ bs w2 (hx0 w2 (.refl _)) (by dsimp only; omega) h8).mono ?_⟩⟩
  rintro e w3 ⟨g1, sl1, rfl, k1, x3⟩
  refine ⟨_, rfl, by omega, by dsimp only; omega, ⟨(newreader_spec _ bs w3 (hx0 w3 x3) (by dsimp only; omega) h8).mono ?_⟩⟩
  rintro e w4 ⟨g2, sl2, rfl, k2, x4⟩
  refine ⟨_, rfl, ⟨(rnewreader_spec s bs w4 (hr.ext (by repeat' (first | assumption | exact Ext.refl _ | refine Ext.trans ?_ (by assumption) | refine Ext.trans ?_ (Qt.ext (by assumption)) | refine Ext.trans ?_ (NewW.ext (by assumption))))) (by omega) h8).mono ?_⟩⟩
  rintro e w5 ⟨g3, sl3, rfl, k3, x5⟩
  refine ⟨_, rfl, ⟨(rnewreader_spec s bs w5 (hr.ext (by repeat' (first | assumption | exact Ext.refl _ | refine Ext.trans ?_ (by assumption) | refine Ext.trans ?_ (Qt.ext (by assumption)) | refine Ext.trans ?_ (NewW.ext (by assumption))))) (by omega) h8).mono ?_⟩⟩
  rintro e w6 ⟨g4, sl4, rfl, k4, x6⟩
  refine ⟨_, rfl, ⟨(still_spec L 0 (s.n + 8) s bs w6 (hb.ext (by repeat' (first | assumption | exact Ext.refl _ | refine Ext.trans ?_ (by assumption) | refine Ext.trans ?_ (Qt.ext (by assumption)) | refine Ext.trans ?_ (NewW.ext (by assumption))))) (hr.ext (by repeat' (first | assumption | exact Ext.refl _ | refine Ext.trans ?_ (by assumption) | refine Ext.trans ?_ (Qt.ext (by assumption)) | refine Ext.trans ?_ (NewW.ext (by assumption))))) (by omega)).mono ?_⟩⟩
  rintro e w7 ⟨rfl, x7⟩
  refine ⟨_, rfl, fun _ => ⟨fun _ => ⟨fun _ => ⟨fun h => by simp at h, fun _ => ?_⟩, fun h => by simp at h⟩, fun h => by simp at h⟩, fun h => by simp at h⟩
  have m1 := x1.size
  have m2 := x2.size
  have m3 := x3.size
  have m4 := x4.size
  have m5 := x5.size
  have m6 := x6.size
  have a1 := k1.own.base
  have a2 := k2.own.base
  have a3 := k3.own.base
  have a4 := k4.own.base
  have c1 := k1.base
  have c2 := k2.base
  have c3 := k3.base
  have c4 := k4.base
  have d1 := k1.blk.lt
  have d2 := k2.blk.lt
  have d3 := k3.blk.lt
  have d4 := k4.blk.lt
  have dL := hb.lt
  have stay : ∀ {a b : World} {s1 s2 : RS}, (Rdr a w2.heap.size g1 bs s1 sl1 ∧ RRd a w4.heap.size g3 bs s1 sl3 ∧ Rdr a w3.heap.size g2 bs s2 sl2 ∧ RRd a w5.heap.size g4 bs s2 sl4 ∧ Ext w a) → Upd (· = L) a b →
      (Rdr b w2.heap.size g1 bs s1 sl1 ∧ RRd b w4.heap.size g3 bs s1 sl3 ∧ Rdr b w3.heap.size g2 bs s2 sl2 ∧ RRd b w5.heap.size g4 bs s2 sl4 ∧ Ext w b) := by
    rintro a b s1 s2 ⟨i1, i2, i3, i4, i5⟩ u
    refine ⟨i1.upd u (by omega) ?_, i2.upd u (by omega) ?_, i3.upd u (by omega) ?_, i4.upd u (by omega) ?_, i5.fresh u (by rintro j rfl; omega)⟩
    · intro p hp he; have := a1 p hp; omega
    · intro p hp he; have := a3 p hp; omega
    · intro p hp he; have := a2 p hp; omega
    · intro p hp he; have := a4 p hp; omega
  refine ⟨fun n v => ∃ i : Nat, n = i ∧ i ≤ s.n + 8 ∧ (Rdr v w2.heap.size g1 bs ⟨0, 0, 0⟩ sl1 ∧ RRd v w4.heap.size g3 bs ⟨0, 0, 0⟩ sl3 ∧ Rdr v w3.heap.size g2 bs ⟨0, 0, 0⟩ sl2 ∧ RRd v w5.heap.size g4 bs ⟨0, 0, 0⟩ sl4 ∧ Ext w v) ∧
      ∃ cs, cs.length = s.n + 8 ∧ Blk v L 5 cs, fun n _ => (s.n + 8 - n).toNat, ⟨0, rfl, by omega, ⟨k1.ext (by repeat' (first | assumption | exact Ext.refl _ | refine Ext.trans ?_ (by assumption) | refine Ext.trans ?_ (Qt.ext (by assumption)) | refine Ext.trans ?_ (NewW.ext (by assumption)))), k3.ext (by repeat' (first | assumption | exact Ext.refl _ | refine Ext.trans ?_ (by assumption) | refine Ext.trans ?_ (Qt.ext (by assumption)) | refine Ext.trans ?_ (NewW.ext (by assumption)))), k2.ext (by repeat' (first | assumption | exact Ext.refl _ | refine Ext.trans ?_ (by assumption) | refine Ext.trans ?_ (Qt.ext (by assumption)) | refine Ext.trans ?_ (NewW.ext (by assumption)))), k4.ext (by repeat' (first | assumption | exact Ext.refl _ | refine Ext.trans ?_ (by assumption) | refine Ext.trans ?_ (Qt.ext (by assumption)) | refine Ext.trans ?_ (NewW.ext (by assumption)))), (by repeat' (first | assumption | exact Ext.refl _ | refine Ext.trans ?_ (by assumption) | refine Ext.trans ?_ (Qt.ext (by assumption)) | refine Ext.trans ?_ (NewW.ext (by assumption))))⟩, _, by simp [hxl], hb.ext (by repeat' (first | assumption | exact Ext.refl _ | refine Ext.trans ?_ (by assumption) | refine Ext.trans ?_ (Qt.ext (by assumption)) | refine Ext.trans ?_ (NewW.ext (by assumption))))⟩, ?_⟩
  rintro _ n v ⟨i, rfl, hi, hI, cs, hcs, hbv⟩
  dsimp only
  push_cast
  refine ⟨fun hlt => ⟨by omega, by omega, _, rfl, ?_⟩, fun hge => ?_⟩
  · rw [add_mk, Nat.zero_add, Int.toNat_natCast]
    refine ⟨hbv.canSet i (by omega), fun v1 hv1 => ⟨⟨i + 1, by rw [wrap_i64 (by omega) (by omega)]; push_cast; rfl, by omega, stay hI hv1.upd, _, ?_, hv1.blk1 hbv⟩, by rw [wrap_i64 (by omega) (by omega)]; omega⟩⟩
    rw [List.length_set, hcs]
  clear hbv hcs cs hb
  refine ⟨fun n v => ∃ i : Nat, n = i ∧ i ≤ t.n ∧ ∃ s1 s2, (Rdr v w2.heap.size g1 bs s1 sl1 ∧ RRd v w4.heap.size g3 bs s1 sl3 ∧ Rdr v w3.heap.size g2 bs s2 sl2 ∧ RRd v w5.heap.size g4 bs s2 sl4 ∧ Ext w v), fun n _ => (t.n - n).toNat,
    ⟨0, rfl, by omega, _, _, hI⟩, ?_⟩
  rintro _ n v ⟨i, rfl, hi, s1, s2, i1, i2, i3, i4, i5⟩
  dsimp only
  refine ⟨fun hlt => ?_, fun hge => i5⟩
  obtain ⟨p, k, m, a, f, hp, k0, k1', hm, q0, q1, q2, q3⟩ := hat i (by omega)
  refine ⟨by omega, by omega, p, hp, k, m, a, f, rfl, ?_, ⟨(asked_spec i1 i2 (by omega) (fun p hp he => by have := a1 p hp; omega) (fun p hp he => by have := a3 p hp; omega) k m a f).mono ?_⟩⟩
  · rw [Int.toNat_natCast]
    exact ⟨i5.cell q0 not_false, i5.cell q1 not_false, i5.cell q2 not_false, i5.cell q3 not_false⟩
  rintro e va ⟨rfl, s1', j1, j2, ua⟩
  have xa : Ext w va := i5.fresh ua (by rintro j (rfl | rfl) <;> omega)
  have j3 := i3.upd ua (by omega) (fun p hp he => by have := a2 p hp; omega)
  have j4 := i4.upd ua (by omega) (fun p hp he => by have := a4 p hp; omega)
  have nxt : ∀ {u : World}, (∃ s1 s2, (Rdr u w2.heap.size g1 bs s1 sl1 ∧ RRd u w4.heap.size g3 bs s1 sl3 ∧ Rdr u w3.heap.size g2 bs s2 sl2 ∧ RRd u w5.heap.size g4 bs s2 sl4 ∧ Ext w u)) →
      (∃ i_1 : Nat, IntKind.i64.wrap ((i : Int) + 1) = i_1 ∧ i_1 ≤ t.n ∧ ∃ s1 s2, (Rdr u w2.heap.size g1 bs s1 sl1 ∧ RRd u w4.heap.size g3 bs s1 sl3 ∧ Rdr u w3.heap.size g2 bs s2 sl2 ∧ RRd u w5.heap.size g4 bs s2 sl4 ∧ Ext w u)) ∧
        ((t.n : Int) - IntKind.i64.wrap ((i : Int) + 1)).toNat < ((t.n : Int) - (i : Int)).toNat := by
    intro u hu
    rw [wrap_i64 (by omega) (by omega)]
    exact ⟨⟨i + 1, by push_cast; rfl, by omega, hu⟩, by omega⟩
  refine ⟨_, rfl, fun _ => ⟨by omega, by omega, p, hp, k, m, a, f, rfl, ?_, ⟨(asked_spec j3 j4 (by omega) (fun p hp he => by have := a2 p hp; omega) (fun p hp he => by have := a4 p hp; omega) k m a f).mono ?_⟩⟩, fun _ => ⟨fun _ => nxt ⟨_, _, j1, j2, j3, j4, xa⟩, fun h => by simp at h⟩⟩
  · rw [Int.toNat_natCast]
    exact ⟨xa.cell q0 not_false, xa.cell q1 not_false, xa.cell q2 not_false, xa.cell q3 not_false⟩
  rintro e vb ⟨rfl, s2', j5, j6, ub⟩
  have xb : Ext w vb := xa.fresh ub (by rintro j (rfl | rfl) <;> omega)
  have j7 := j1.upd ub (by omega) (fun p hp he => by have := a1 p hp; omega)
  have j8 := j2.upd ub (by omega) (fun p hp he => by have := a3 p hp; omega)
  exact ⟨_, rfl, fun _ => ⟨fun h => by simp at h, fun _ => nxt ⟨_, _, j7, j8, j5, j6, xb⟩⟩, fun h => by simp at h⟩
end Go.Proofs.Ytbkoagepkjpalaa.V
