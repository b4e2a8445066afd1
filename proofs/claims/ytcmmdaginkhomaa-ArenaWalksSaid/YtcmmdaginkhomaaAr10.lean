/-
  The document's Make.
-/
import Derived.Test.YtcmmdaginkhomaaAr9
namespace Go.Proofs.Ytcmmdaginkhomaa.V
open Go Go.RowKit
set_option linter.unusedVariables false
set_option linter.unusedSimpArgs false
set_option maxRecDepth 100000

def Ar.lay (A : Ar) (a : Nat) (xs : List Nat) : Ar := { A with ws := layL A.ws a xs }
theorem Ar.Ok.lay {A : Ar} (h : A.Ok) {a : Nat} {xs : List Nat} (hl : a + xs.length ≤ A.ws.length) (hx : ∀ x ∈ xs, x < 18446744073709551616) : (A.lay a xs).Ok :=
  ⟨h.n, by show (layL A.ws a xs).length = _; rw [layL_len hl]; exact h.len, fun y hy => by
    rcases layL_mem hy with h1 | h1
    · exact h.lt y h1
    · exact hx y h1, h.use, h.use1, h.nxt, h.nxt0⟩
theorem layL_nil (l : List Nat) (a : Nat) : layL l a [] = l := by simp [layL]
theorem layL_snoc {l xs : List Nat} {a x : Nat} (h : a + xs.length + 1 ≤ l.length) : (layL l a xs).set (a + xs.length) x = layL l a (xs ++ [x]) := by
  apply List.ext_getElem?
  intro j
  rw [layL_get (by simp; omega), List.getElem?_set, layL_len (by omega), layL_get (by omega)]
  simp only [List.length_append, List.length_cons, List.length_nil]
  by_cases h1 : a + xs.length = j
  · subst h1
    rw [if_pos rfl, if_pos (by omega), if_neg (by omega), if_pos (by omega), List.getElem?_append_right (by omega)]
    simp
  · rw [if_neg h1]
    by_cases h2 : j < a
    · rw [if_pos h2, if_pos h2]
    · rw [if_neg h2, if_neg h2]
      by_cases h3 : j < a + xs.length
      · rw [if_pos h3, if_pos (by omega), List.getElem?_append_left (by omega)]
      · rw [if_neg h3, if_neg (by omega)]
theorem lay_spec {w : World} {b g : Nat} {A : Ar} (h : ArW 76 w b g A) (s : Sp) {x : Sl} {xs : List Nat} (hx : Rd w 1 x (uv xs)) (hoff : ∀ p, x.a = some p → p.block ≠ b) (hfit : s.e + xs.length ≤ A.ws.length) (hxl : ∀ y ∈ xs, y < 18446744073709551616) :
    Calls Try.prog 62 #[.pointer (some ⟨g, 0, none⟩), .agg #[.int .i64 (s.f : Nat), .int .i64 (s.e : Nat)], .slice x.a x.n x.c] w fun e w' =>
      e = .returned (.tuple #[.agg #[.int .i64 (s.f : Nat), .int .i64 (s.e + xs.length : Nat)], .int .u64 (s.e + 1 : Nat)]) ∧ ArW 76 w' b g (A.lay s.e xs) ∧ Upd (fun k => k = b) w w' := by
  refine vc_62 _ _ _ _ _ _ ?_
  have hn := h.ok.n; have hlen := h.ok.len
  have hne : g ≠ b := h.hd.ne h.ws (by decide)
  have hb0 := h.ws.lt; have hg0 := h.hd.lt
  have hxn := hx.lenu
  simp only [eq_self, false_or, or_false, true_and, and_true, decide_eq_true_eq, decide_eq_false_iff_not, gd_st, gd_sf, exists_eq_left', exists_eq_left, Option.some.injEq, Sl.eta, Nat.reduceLeDiff, Int.reduceLE, Int.reduceLT, Int.reduceEq, Int.reduceNe, Nat.reduceMul, Nat.reduceAdd, Nat.reduceSub, Int.toNat_natCast, beq_iff_eq, bne_iff_ne, beq_eq_false_iff_ne, bne_eq_false_iff_eq, pick_and, pick_or, Bool.and_eq_true, Bool.or_eq_true, Bool.and_eq_false_iff, Bool.or_eq_false_iff, ne_eq, not_false_eq_true, Bool.not_eq_true', Bool.not_eq_false', reduceCtorEq, Nat.le_refl, Nat.zero_mul, Nat.mul_one, Nat.zero_add, Int.reduceToNat, ones, one, add_mk, Decidable.not_not, cond_true, cond_false, true_implies, false_implies, implies_true, Bool.not_true, Bool.not_false]
  intro w1 n1 w2 n2
  have k2 := (Blk.new n1).ext n2.ext
  have j2 := Blk.new n2
  have x02 := n1.ext.trans n2.ext
  have z1 := n1.ext.size
  have y1 := (Blk.new n1).lt
  refine ⟨fun n w' => 0 ≤ n ∧ n ≤ xs.length ∧ ArW 76 w' b g (A.lay s.e (xs.take n.toNat)) ∧ Upd (fun k => k = b) w2 w', fun n _ => (xs.length - n).toNat, ⟨by omega, by omega, ?_, .refl _ _⟩, ?_⟩
  · rw [show xs.take (0 : Int).toNat = [] from rfl]
    unfold Ar.lay
    rw [layL_nil]
    exact h.ext x02
  rintro _ n w3 ⟨m0, m1, a3, u3⟩
  have k3 := k2.upd u3 (by omega)
  have j3 := j2.upd u3 (by omega)
  obtain ⟨n, rfl⟩ : ∃ k : Nat, n = k := ⟨n.toNat, by omega⟩
  rw [Int.toNat_natCast] at a3
  have htl : (xs.take n).length = n := by rw [List.length_take]; omega
  have hl3 : (A.lay s.e (xs.take n)).ws.length = A.ws.length := layL_len (by omega)
  refine ⟨fun hlt => ?_, fun hge => ?_⟩
  · intro w4 q4
    have a4 := a3.ext q4.ext
    have k4 := k3.ext q4.ext
    obtain ⟨p, y, hp, hy, hcy⟩ := ((hx.ext x02).upd u3 fun p hp e => hoff p hp e).word n (by omega)
    rw [Nat.mul_one] at hcy
    have hyl := hxl y (List.mem_of_getElem? hy)
    refine ⟨fun _ => False, ⟨some ⟨b, 0, none⟩, (A.lay s.e (xs.take n)).ws.length, (A.lay s.e (xs.take n)).ws.length⟩, fun w' u => (a4.ext u).hd.cell 1, _, fun w' u => (k4.ext u).cell 1, m0, hlt, p, hp, _, fun w' u => Upd.cell u (Upd.cell q4.ext hcy not_false) not_false, ?_⟩
    rw [wrap_i64 (n := (s.e : Int) + (n : Int)) (by omega) (by omega), show (s.e : Int) + (n : Int) = ((s.e + n : Nat) : Int) by omega, Int.toNat_natCast]
    refine ⟨by omega, by dsimp only; omega, _, rfl, a4.can (by omega), fun w5 s5 => ?_⟩
    obtain ⟨a5, u5⟩ := a4.put (by decide) hyl s5
    refine ⟨⟨by (first | (rw [wrap_i64 (by omega) (by omega)]; omega) | (dsimp only; rw [wrap_i64 (by omega) (by omega)]; omega) | (dsimp only; omega)), by (first | (rw [wrap_i64 (by omega) (by omega)]; omega) | (dsimp only; rw [wrap_i64 (by omega) (by omega)]; omega) | (dsimp only; omega)), ?_, (u3.still' q4.ext).one' u5 rfl⟩, by (first | (rw [wrap_i64 (by omega) (by omega)]; omega) | (dsimp only; rw [wrap_i64 (by omega) (by omega)]; omega) | (dsimp only; omega))⟩
    rw [wrap_i64 (by omega) (by omega), show ((n : Int) + 1).toNat = n + 1 by omega, List.take_add_one, hy]
    have e : (A.lay s.e (xs.take n)).put (s.e + n) y = A.lay s.e (xs.take n ++ (some y).toList) := by
      unfold Ar.lay Ar.put
      dsimp only
      have := layL_snoc (l := A.ws) (xs := xs.take n) (a := s.e) (x := y) (by omega)
      rw [htl] at this
      rw [this]; rfl
    rw [← e]
    exact a5
  · have hnx : n = xs.length := by omega
    subst hnx
    rw [List.take_of_length_le (Nat.le_refl _)] at a3
    simp only [k3.cell, List.getElem?_cons_zero, List.getElem?_cons_succ, ex_sl, Value.int.injEq, Value.bool.injEq, Value.pointer.injEq, Value.string.injEq, eq_self, false_or, or_false, true_and, and_true, decide_eq_true_eq, decide_eq_false_iff_not, gd_st, gd_sf, exists_eq_left', exists_eq_left, Option.some.injEq, Sl.eta, Nat.reduceLeDiff, Int.reduceLE, Int.reduceLT, Int.reduceEq, Int.reduceNe, Nat.reduceMul, Nat.reduceAdd, Nat.reduceSub, Int.toNat_natCast, beq_iff_eq, bne_iff_ne, beq_eq_false_iff_ne, bne_eq_false_iff_eq, pick_and, pick_or, Bool.and_eq_true, Bool.or_eq_true, Bool.and_eq_false_iff, Bool.or_eq_false_iff, ne_eq, not_false_eq_true, Bool.not_eq_true', Bool.not_eq_false', reduceCtorEq, Nat.le_refl, Nat.zero_mul, Nat.mul_one, Nat.zero_add, Int.reduceToNat, ones, one, add_mk, Decidable.not_not, cond_true, cond_false, true_implies, false_implies, implies_true, Bool.not_true, Bool.not_false]
    rw [wrap_i64 (n := (s.e : Int) + (x.n : Int)) (by omega) (by omega), show (s.e : Int) + (x.n : Int) = ((s.e + xs.length : Nat) : Int) by omega]
    refine ⟨k3.canSet 1 (by simp), fun w4 s4 => ?_⟩
    have k4 := s4.blk1 (i := 1) k3
    have j4 := j3.upd s4.upd (by dsimp only; omega)
    refine ⟨_, _, rfl, ⟨k4.cell 0, k4.cell 1⟩, rfl, j4.canSetN 0 2 (by simp), fun w5 s5 => ?_⟩
    have j5 := s5.blk (i := 0) j4
    simp only [setsL, List.set] at j5
    have er : IntKind.u64.wrap (IntKind.u64.wrap (s.e : Int) + 1) = ((s.e + 1 : Nat) : Int) := by
      rw [wrap_u64 (n := (s.e : Int)) (by omega) (by omega), wrap_u64 (by omega) (by omega)]; omega
    rw [er]
    refine ⟨_, _, rfl, ⟨j5.cell 0, j5.cell 1⟩, rfl, (a3.upd s4.upd (by dsimp only; omega) (by dsimp only; omega)).upd s5.upd (by dsimp only; omega) (by dsimp only; omega), ?_⟩
    have U : Upd (fun k => k = b) w w3 := x02.upd u3
    refine (U.trans s4.upd (R := fun k => k = b ∨ w.heap.size ≤ k) fun i hi hn => ⟨fun e => hn (.inl e), fun e => hn (.inr (by dsimp only at e; omega))⟩).trans s5.upd (fun i hi hn => ⟨fun e => ?_, fun e => ?_⟩)
    · rcases e with e | e
      · exact hn e
      · omega
    · dsimp only at e; omega
end Go.Proofs.Ytcmmdaginkhomaa.V
