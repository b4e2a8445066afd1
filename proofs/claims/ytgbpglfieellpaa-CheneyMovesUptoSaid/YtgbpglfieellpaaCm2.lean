/-
  twin; spoilt.
-/
import Derived.Test.YtgbpglfieellpaaCm1
namespace Go.Proofs.Ytgbpglfieellpaa.V
open Go Go.RowKit
set_option linter.unusedVariables false
set_option linter.unusedSimpArgs false
set_option maxRecDepth 100000

theorem twin_spec {w : World} {b g : Nat} {A : Ar} (h : ArW 76 w b g A) (ho : A.opn = false) (hf : A.use.f = 0) :
    Calls Try.prog 19 #[.pointer (some ⟨g, 0, none⟩)] w fun e w' => ∃ b2 g2, e = .returned (.pointer (some ⟨g2, 0, none⟩)) ∧ ArW 59 w' b2 g2 A ∧ w.heap.size ≤ b2 ∧ w.heap.size ≤ g2 ∧ Ext w w' := by
  refine vc_19 _ _ _ ?_
  have hn := h.ok.n; have hl := h.ok.len
  simp only [eq_self, false_or, or_false, true_and, and_true, decide_eq_true_eq, decide_eq_false_iff_not, gd_st, gd_sf, exists_eq_left', exists_eq_left, Option.some.injEq, Sl.eta, Nat.reduceLeDiff, Int.reduceLE, Int.reduceLT, Int.reduceEq, Int.reduceNe, Nat.reduceMul, Nat.reduceAdd, Nat.reduceSub, Int.toNat_natCast, beq_iff_eq, bne_iff_ne, beq_eq_false_iff_ne, bne_eq_false_iff_eq, pick_and, pick_or, Bool.and_eq_true, Bool.or_eq_true, Bool.and_eq_false_iff, Bool.or_eq_false_iff, ne_eq, not_false_eq_true, Bool.not_eq_true', Bool.not_eq_false', reduceCtorEq, Nat.le_refl, Nat.zero_mul, Nat.mul_one, Nat.zero_add, Int.reduceToNat, ones, one, add_mk, Decidable.not_not, cond_true, cond_false, true_implies, false_implies, implies_true, Bool.not_true, Bool.not_false]
  refine ⟨(words_spec h).mono ?_⟩
  rintro e w1 ⟨rfl, rfl⟩
  refine ⟨_, rfl, ⟨(rnew_spec (n := (A.n : Int)) (by omega) _).mono ?_⟩⟩
  rintro e w2 ⟨x2, ⟨hno, _⟩ | ⟨n, b2, g2, hk, hn', rfl, hb2, hg2, a2⟩⟩
  · omega
  obtain rfl : n = A.n := by omega
  have hd2 := a2.hd; have ws2 := a2.ws
  have hlb := ws2.lt; have hlg := hd2.lt
  have hll : (newA A.n).ws.length = A.ws.length := by rw [hl]; simp [newA]
  have hne := hd2.ne ws2 (by decide)
  refine ⟨_, _, rfl, fun hh => (by cases hh), fun _ => ?_⟩
  refine ⟨fun i w' => ∃ k : Nat, i = (k : Nat) ∧ k ≤ A.ws.length ∧ Blk w' g2 59 [.int .i64 (A.n : Nat), .slice (some ⟨b2, 0, none⟩) A.ws.length A.ws.length, .int .i64 0, .int .i64 0, .int .i64 0, .int .i64 0, .bool false] ∧ Blk w' b2 23 (uv (layL (newA A.n).ws 0 (A.ws.take k))) ∧ Ext w1 w', fun i _ => (A.ws.length - i).toNat,
    ⟨0, rfl, Nat.zero_le _, by rw [hll] at hd2; exact hd2, by rw [List.take_zero, layL_nil]; exact ws2, x2⟩, ?_⟩
  rintro _ i w3 ⟨k, rfl, hk', hd3, ws3, x3⟩
  have z3 := x3.size
  have ei : IntKind.i64.wrap ((k : Int) + 1) = ((k + 1 : Nat) : Int) := by rw [wrap_i64 (by omega) (by omega)]; omega
  rw [ei]
  have htl : (A.ws.take k).length = k := by rw [List.length_take]; omega
  refine ⟨_, rfl, ⟨some ⟨b2, 0, none⟩, A.ws.length, A.ws.length⟩, hd3.cell 1, fun hlt => ⟨(word_spec (h.ext x3) (k : Int)).mono ?_⟩, fun hge => ⟨(used_spec (h.ext x3)).mono ?_⟩⟩
  · rintro e w4 ⟨rfl, rfl⟩
    dsimp only at hlt
    have e1 : wordO A (k : Int) = (A.ws.getD k 0, true) := by unfold wordO; rw [if_pos (by omega), Int.toNat_natCast]
    rw [e1]
    refine ⟨_, _, rfl, _, rfl, ⟨some ⟨b2, 0, none⟩, A.ws.length, A.ws.length⟩, hd3.cell 1, by omega, hlt, _, rfl, ?_, fun w5 s5 => ?_⟩
    · rw [Int.toNat_natCast, add_mk, Nat.zero_add]
      exact ws3.canSet k (by rw [uv_length, layL_len (by omega)]; omega)
    · rw [Int.toNat_natCast, add_mk, Nat.zero_add] at s5
      have b5 := s5.blk1 ws3
      have hg5 : A.ws[k]? = some (A.ws.getD k 0) := by rw [List.getD_eq_getElem?_getD, List.getElem?_eq_getElem (by omega)]; rfl
      have e2 : (layL (newA A.n).ws 0 (A.ws.take k)).set k (A.ws.getD k 0) = layL (newA A.n).ws 0 (A.ws.take (k + 1)) := by
        have := layL_snoc (l := (newA A.n).ws) (xs := A.ws.take k) (a := 0) (x := A.ws.getD k 0) (by omega)
        rw [htl, Nat.zero_add] at this
        rw [this, take_snoc hg5]
      rw [uv_set, e2] at b5
      exact ⟨⟨k + 1, rfl, by omega, hd3.upd s5.upd (by dsimp only; omega), b5, x3.fresh s5.upd (by rintro i rfl; exact hb2)⟩, by dsimp only; omega⟩
  · rintro e w4 ⟨rfl, q4⟩
    dsimp only at hge
    have hk2 : k = A.ws.length := by omega
    subst hk2
    rw [List.take_of_length_le (Nat.le_refl _)] at ws3
    have e2 : layL (newA A.n).ws 0 A.ws = A.ws := by simp [layL, hll]
    rw [e2] at ws3
    have hd4 := hd3.ext q4.ext
    refine ⟨_, rfl, _, rfl, ?_, fun w5 s5 => ?_⟩
    · exact hd4.canSet 3 (by simp)
    · have s5' : SetW w4 ⟨g2, 3, none⟩ [.int .i64 ((A.use.e - A.use.f : Nat) : Int)] w5 := s5
      have b5 := s5'.blk1 hd4
      simp only [List.set] at b5
      have x5 : Ext w1 w5 := (x3.trans q4.ext).fresh s5'.upd (by rintro i rfl; exact hg2)
      refine ⟨b2, g2, rfl, ⟨h.ok, ?_, (ws3.ext q4.ext).upd s5'.upd (by dsimp only; omega)⟩, hb2, hg2, x5⟩
      have hx := h.ok.nxt0 ho
      rw [hx, hf, ho]
      rw [hf, Nat.sub_zero] at b5
      exact b5
end Go.Proofs.Ytgbpglfieellpaa.V
