/-
  Law LebPuts.
-/
import Derived.Test.YtbkoagepkjpalaaLebA
namespace Go.Proofs.Ytbkoagepkjpalaa.V
open Go Go.RowKit
set_option linter.unusedVariables false
set_option linter.unusedSimpArgs false

theorem cut0' (s : Sl) : (if s.c = 0 then s.a else Option.map (fun x => x.add (0 * 1)) s.a) = s.a := cut0 s

theorem lebputs_spec (s : Sl) (xs : List Nat) (n : Nat) (i : Int) (w : World) (hr : Rd w 1 s (bv xs)) (hl : s.n ≤ 140737488354000) (hn : n < 18446744073709551616) (h0 : -9223372036854775808 ≤ i) (h1 : i ≤ 9223372036854775807) :
    Calls Try.prog 3 #[.slice s.a s.n s.c, .int .u64 n, .int .i64 i] w fun e w' => e = .returned (.bool true) ∧ Ext w w' := by
  have hxl := hr.lenb
  have f1 := form_len n hn
  have f2 := form_len (fold i) (fold_lt h0 h1)
  refine vc_3 _ _ _ _ _ ?_
  simp only [eq_self, true_and, and_true, decide_eq_true_eq, decide_eq_false_iff_not, gd_st, gd_sf, exists_eq_left', exists_eq_left, Option.some.injEq, Sl.eta, Nat.reduceLeDiff, Int.reduceLE, Int.reduceLT, Int.reduceEq, Int.reduceNe, Nat.reduceMul, Nat.reduceAdd, Nat.reduceSub, Int.toNat_natCast, beq_iff_eq, bne_iff_ne, beq_eq_false_iff_ne, bne_eq_false_iff_eq, pick_and, pick_or, Bool.and_eq_true, Bool.or_eq_true, Bool.and_eq_false_iff, Bool.or_eq_false_iff, ne_eq, not_false_eq_true, Bool.not_eq_true', Bool.not_eq_false', reduceCtorEq, Nat.le_refl, Nat.zero_mul, Nat.mul_one, Nat.zero_add, Int.reduceToNat, ones, one, add_mk, Decidable.not_not, cond_true, cond_false, true_implies, false_implies, implies_true, Bool.not_true, Bool.not_false]
  refine ⟨(shown_spec w).mono ?_⟩
  rintro e w1 ⟨rfl, x1⟩
  refine ⟨_, rfl, ⟨(lent_spec s xs w1 (hr.ext x1) (by omega)).mono ?_⟩⟩
  rintro e w2 ⟨g, rfl, hg, hb, x2⟩
  refine ⟨⟨some ⟨g, 0, none⟩, s.n + 8, s.n + 8⟩, rfl, ?_⟩
  have hx0 : ∀ w', Ext w2 w' → Rd w' 1 ⟨some ⟨g, 0, none⟩, s.n, s.n + 8⟩ (bv xs) := by
    intro w' x
    have := (hb.ext x).rd (z := 1) (o := 0) (n := s.n) (c := s.n + 8) (by simp [hxl])
    rw [List.drop_zero, Nat.mul_one, bv_take, ← hxl, List.take_left] at this
    exact hxl ▸ this
  rw [show (if (⟨some ⟨g, 0, none⟩, s.n + 8, s.n + 8⟩ : Sl).c = 0 then (⟨some ⟨g, 0, none⟩, s.n + 8, s.n + 8⟩ : Sl).a else Option.map (fun x => x.add 0) (⟨some ⟨g, 0, none⟩, s.n + 8, s.n + 8⟩ : Sl).a) = some ⟨g, 0, none⟩ from cut0 _]
  refine ⟨by omega, by dsimp only; omega, ⟨(put_spec _ xs n w2 (hx0 w2 (.refl _)) hn (by dsimp only; omega)).mono ?_⟩⟩
  rintro e w3 ⟨r1, rfl, o1, x3⟩
  refine ⟨r1, rfl, by omega, by dsimp only; omega, ⟨(putint_spec _ xs i w3 (hx0 w3 x3) h0 h1 (by dsimp only; omega)).mono ?_⟩⟩
  rintro e w4 ⟨r2, rfl, o2, x4⟩
  refine ⟨r2, rfl, by omega, by dsimp only; omega, ⟨(put_spec _ xs n w4 (hx0 w4 (x3.trans x4)) hn (by dsimp only; omega)).mono ?_⟩⟩
  rintro e w5 ⟨r3, rfl, o3, x5⟩
  have e5 : Ext w w5 := (((x1.trans x2).trans x3).trans x4).trans x5
  refine ⟨r3, rfl, ⟨(refput_spec s xs n w5 (hr.ext e5) hn (by omega)).mono ?_⟩⟩
  rintro e w6 ⟨r4, rfl, o4, x6⟩
  refine ⟨r4, rfl, ⟨(refputint_spec s xs i w6 (hr.ext (e5.trans x6)) h0 h1 (by omega)).mono ?_⟩⟩
  rintro e w7 ⟨r5, rfl, o5, x7⟩
  have e27 : Ext w2 w7 := (((x3.trans x4).trans x5).trans x6).trans x7
  have e7 : Ext w w7 := (x1.trans x2).trans e27
  refine ⟨r5, rfl, ⟨(still_spec g 0 (s.n + 8) s xs w7 (hb.ext e27) (hr.ext e7) (by omega)).mono ?_⟩⟩
  rintro e w8 ⟨rfl, x8⟩
  have e28 := e27.trans x8
  have e8 := e7.trans x8
  have p1 : Own w8 w2.heap.size 5 1 r1 (bv (xs ++ form n)) := o1.ext ((((x4.trans x5).trans x6).trans x7).trans x8)
  have p2 : Own w8 w3.heap.size 5 1 r2 (bv (xs ++ form (fold i))) := o2.ext (((x5.trans x6).trans x7).trans x8)
  have p3 : Own w8 w4.heap.size 5 1 r3 (bv (xs ++ form n)) := o3.ext ((x6.trans x7).trans x8)
  have p4 : Own w8 w5.heap.size 5 1 r4 (bv (xs ++ form n)) := o4.ext (x7.trans x8)
  have p5 : Own w8 w6.heap.size 5 1 r5 (bv (xs ++ form (fold i))) := o5.ext x8
  refine ⟨_, rfl, ?_⟩
  refine ⟨fun _ => ⟨fun _ => ⟨_, w8, p1.rd.text tab_ok rfl rfl rfl, _, w8, p4.rd.text tab_ok rfl rfl rfl, fun _ => ⟨_, w8, p2.rd.text tab_ok rfl rfl rfl, _, w8, p5.rd.text tab_ok rfl rfl rfl, fun _ => ⟨_, w8, p3.rd.text tab_ok rfl rfl rfl, _, w8, p4.rd.text tab_ok rfl rfl rfl, fun _ => ?_, fun h => (h rfl).elim⟩, fun h => (h rfl).elim⟩, fun h => (h rfl).elim⟩, fun h => by simp at h⟩, fun h => by simp at h⟩
  refine ⟨(size_spec n w8 hn).mono ?_⟩
  rintro e w9' ⟨rfl, rfl⟩
  refine ⟨_, rfl, ⟨(refsize_spec n w9' hn).mono ?_⟩⟩
  rintro e w9 ⟨rfl, x9⟩
  refine ⟨_, rfl, fun h => (h rfl).elim, fun _ => ?_⟩
  have q1 := p1.ext x9
  have q2 := p2.ext x9
  have q3 := p3.ext x9
  have q4 := p4.ext x9
  have q5 := p5.ext x9
  have l1 := q1.rd.lenb
  have l2 := q2.rd.lenb
  have l3 := q3.rd.lenb
  simp only [List.length_append] at l1 l2 l3
  have m3 := x3.size
  have m4 := x4.size
  have m5 := x5.size
  have m6 := x6.size
  have m8 := ((x7.trans x8).trans x9).size
  have z5 := x5.size
  refine ⟨(full_spec w2.heap.size r1 _ 1 w9 q1 (by omega) (by omega)).mono ?_⟩
  rintro e wa ⟨r6, rfl, o6, ua, na⟩
  have bnd1 : ∀ p, r1.a = some p → w2.heap.size ≤ p.block ∧ p.block < w3.heap.size := fun p hp => ⟨(o1.base p hp).1, (o1.base p hp).2⟩
  have bnd2 : ∀ p, r2.a = some p → w3.heap.size ≤ p.block ∧ p.block < w4.heap.size := fun p hp => ⟨(o2.base p hp).1, (o2.base p hp).2⟩
  have bnd3 : ∀ p, r3.a = some p → w4.heap.size ≤ p.block ∧ p.block < w5.heap.size := fun p hp => ⟨(o3.base p hp).1, (o3.base p hp).2⟩
  have qa2 := q2.upd ua (by rintro p hp ⟨p', hp', h⟩; have := bnd1 p' hp'; have := bnd2 p hp; omega)
  have qa3 := q3.upd ua (by rintro p hp ⟨p', hp', h⟩; have := bnd1 p' hp'; have := bnd3 p hp; omega)
  have qa4 := q4.upd ua (by rintro p hp ⟨p', hp', h⟩; have := bnd1 p' hp'; have := (q4.base p hp).1; omega)
  have qa5 := q5.upd ua (by rintro p hp ⟨p', hp', h⟩; have := bnd1 p' hp'; have := (q5.base p hp).1; omega)
  have ea : Ext w2 wa := (e28.trans x9).fresh ua (by rintro k ⟨p, hp, rfl⟩; exact (bnd1 p hp).1)
  have sa := ua.size
  refine ⟨r6, rfl, _, wa, qa2.rd.text tab_ok rfl rfl rfl, _, wa, qa5.rd.text tab_ok rfl rfl rfl, fun _ => ?_, fun h => (h rfl).elim⟩
  refine ⟨_, wa, qa3.rd.text tab_ok rfl rfl rfl, _, wa, qa4.rd.text tab_ok rfl rfl rfl, ?_⟩
  refine ⟨(full_spec w3.heap.size r2 _ 2 wa qa2 (by omega) (by omega)).mono ?_⟩
  rintro e wb ⟨r7, rfl, o7, ub, nb⟩
  have qb3 := qa3.upd ub (by rintro p hp ⟨p', hp', h⟩; have := bnd2 p' hp'; have := bnd3 p hp; omega)
  have qb4 := qa4.upd ub (by rintro p hp ⟨p', hp', h⟩; have := bnd2 p' hp'; have := (q4.base p hp).1; omega)
  have b6 : ∀ p, r6.a = some p → (w2.heap.size ≤ p.block ∧ p.block < w3.heap.size) ∨ w9.heap.size ≤ p.block := fun p hp => (na p hp).imp (bnd1 p) id
  have qb6 := o6.upd ub (by rintro p hp ⟨p', hp', h⟩; have := bnd2 p' hp'; have := b6 p hp; omega)
  have eb : Ext w2 wb := ea.fresh ub (by rintro k ⟨p, hp, rfl⟩; have := bnd2 p hp; omega)
  have sb := ub.size
  refine ⟨r7, rfl, _, wb, qb3.rd.text tab_ok rfl rfl rfl, _, wb, qb4.rd.text tab_ok rfl rfl rfl, ?_⟩
  refine ⟨(full_spec w4.heap.size r3 _ 3 wb qb3 (by omega) (by omega)).mono ?_⟩
  rintro e wc ⟨r8, rfl, o8, uc, nc⟩
  have b7 : ∀ p, r7.a = some p → (w3.heap.size ≤ p.block ∧ p.block < w4.heap.size) ∨ wa.heap.size ≤ p.block := fun p hp => (nb p hp).imp (bnd2 p) id
  have qc6 := qb6.upd uc (by rintro p hp ⟨p', hp', h⟩; have := bnd3 p' hp'; have := b6 p hp; omega)
  have qc7 := o7.upd uc (by rintro p hp ⟨p', hp', h⟩; have := bnd3 p' hp'; have := b7 p hp; omega)
  have ec : Ext w2 wc := eb.fresh uc (by rintro k ⟨p, hp, rfl⟩; have := bnd3 p hp; omega)
  have k6 := qc6.rd.lenb
  have k7 := qc7.rd.lenb
  simp only [List.length_replicate] at k6 k7
  refine ⟨r8, rfl, ⟨(all_spec r6 _ 1 wc qc6.rd (by omega)).mono ?_⟩⟩
  rintro e wd ⟨rfl, rfl⟩
  refine ⟨_, rfl, ⟨(all_spec r7 _ 2 wd qc7.rd (by omega)).mono ?_⟩⟩
  rintro e wd' ⟨rfl, rfl⟩
  refine ⟨_, rfl, ⟨(still_spec g 0 (s.n + 8) s xs wd' (hb.ext ec) (hr.ext ((x1.trans x2).trans ec)) (by omega)).mono ?_⟩⟩
  rintro e we ⟨rfl, xe⟩
  refine ⟨_, rfl, ?_⟩
  have ef := ((x1.trans x2).trans ec).trans xe
  simp [ef]
end Go.Proofs.Ytbkoagepkjpalaa.V
