/-
  Cells and words of an arena.
-/
import Derived.Test.YtcmmdaginkhomaaAr5
namespace Go.Proofs.Ytcmmdaginkhomaa.V
open Go Go.RowKit
set_option linter.unusedVariables false
set_option linter.unusedSimpArgs false
set_option maxRecDepth 100000

theorem placeT_in {A : Ar} (ok : A.Ok) {r : Nat} {i : Int} {j : Nat} (h : placeT A r i = some j) : j < A.ws.length ∧ 1 ≤ r ∧ r ≤ 131072 ∧ 0 ≤ i ∧ j = r + i.toNat ∧ ∃ hd, headT A r = some hd ∧ i < hd.l := by
  unfold placeT at h
  have := ok.n; have hl := ok.len
  split at h
  · rename_i hd hh
    split at h
    · rename_i hi
      injection h with h
      subst h
      obtain ⟨h1, h2, h3⟩ := headT_in ok hh
      exact ⟨by omega, h1, by omega, hi.1, rfl, hd, hh, hi.2⟩
    · cases h
  · cases h
def cellO (A : Ar) (r : Nat) (i : Int) : Nat × Int :=
  match placeT A r i with
  | some j => (A.ws.getD j 0, 0)
  | none => (0, 20)
def Ar.put (A : Ar) (j x : Nat) : Ar := { A with ws := A.ws.set j x }
def setO (A : Ar) (r : Nat) (i : Int) (x : Nat) : Ar × Int :=
  match placeT A r i with
  | some j => (A.put j x, 0)
  | none => (A, 20)
theorem Ar.Ok.put {A : Ar} (h : A.Ok) {j x : Nat} (hx : x < 18446744073709551616) : (A.put j x).Ok :=
  ⟨h.n, by show (A.ws.set j x).length = _; rw [List.length_set]; exact h.len, fun y hy => by
    rcases List.mem_or_eq_of_mem_set hy with h1 | h1
    · exact h.lt y h1
    · rw [h1]; exact hx, h.use, h.use1, h.nxt, h.nxt0⟩
section
variable {t : Nat} {w w' : World} {b g : Nat} {A : Ar}
/-- a word is set -/
theorem ArW.put (h : ArW t w b g A) (ht : t ≠ 22) {j x : Nat} (hx : x < 18446744073709551616) (s : SetW w ((⟨b, 0, none⟩ : Addr).add j) [.int .u64 (x : Nat)] w') : ArW t w' b g (A.put j x) ∧ Upd (fun k => k = b) w w' := by
  rw [add_mk, Nat.zero_add] at s
  have hne : g ≠ b := h.hd.ne h.ws ht
  have k := s.blk1 h.ws
  rw [uv_set] at k
  refine ⟨⟨h.ok.put hx, ?_, k⟩, s.upd⟩
  have := h.hd.upd s.upd hne
  show Blk w' g t [.int .i64 (A.n : Nat), .slice (some ⟨b, 0, none⟩) (A.ws.set j x).length (A.ws.set j x).length, _, _, _, _, _]
  rw [List.length_set]
  exact this
theorem ArW.can (h : ArW t w b g A) {j : Nat} (hj : j < A.ws.length) : CanSet w ((⟨b, 0, none⟩ : Addr).add j) 1 := by
  rw [add_mk, Nat.zero_add]
  exact h.ws.canSet j (by simpa using hj)
theorem ArW.wordAt (h : ArW t w b g A) {j : Nat} (hj : j < A.ws.length) : w.cell? ((⟨b, 0, none⟩ : Addr).add j) = some (.int .u64 (A.ws.getD j 0 : Nat)) := by
  rw [add_mk, Nat.zero_add, h.ws.cell, List.getD_eq_getElem?_getD, List.getElem?_eq_getElem hj]
  simp [uv, hj]
end
theorem cell_spec {w : World} {b g : Nat} {A : Ar} (h : ArW 92 w b g A) {r : Nat} (hr : r < 18446744073709551616) {i : Int} (hi : i ≤ 9223372036854775807) :
    Calls Try.prog 41 #[.pointer (some ⟨g, 0, none⟩), .int .u64 (r : Nat), .int .i64 i] w fun e w' => e = .returned (.tuple #[.pointer ((placeT A r i).map fun j => ⟨b, j, none⟩), .bool (placeT A r i).isSome]) ∧ Ext w w' := by
  refine vc_41 _ _ _ _ _ ?_
  have hn := h.ok.n; have hlen := h.ok.len
  simp only [eq_self, false_or, or_false, true_and, and_true, decide_eq_true_eq, decide_eq_false_iff_not, gd_st, gd_sf, exists_eq_left', exists_eq_left, Option.some.injEq, Sl.eta, Nat.reduceLeDiff, Int.reduceLE, Int.reduceLT, Int.reduceEq, Int.reduceNe, Nat.reduceMul, Nat.reduceAdd, Nat.reduceSub, Int.toNat_natCast, beq_iff_eq, bne_iff_ne, beq_eq_false_iff_ne, bne_eq_false_iff_eq, pick_and, pick_or, Bool.and_eq_true, Bool.or_eq_true, Bool.and_eq_false_iff, Bool.or_eq_false_iff, ne_eq, not_false_eq_true, Bool.not_eq_true', Bool.not_eq_false', reduceCtorEq, Nat.le_refl, Nat.zero_mul, Nat.mul_one, Nat.zero_add, Int.reduceToNat, ones, one, add_mk, Decidable.not_not, cond_true, cond_false, true_implies, false_implies, implies_true, Bool.not_true, Bool.not_false]
  refine ⟨(header_spec h hr).mono ?_⟩
  rintro e w1 ⟨rfl, x1⟩
  refine ⟨_, _, _, _, _, rfl, fun w2 n2 => ⟨rfl, HB.can n2, fun w3 s3 => ?_⟩⟩
  obtain ⟨b3, y3⟩ := HB.made n2 s3
  have x3 := x1.trans y3
  have a3 := h.ext x3
  cases hh : headT A r with
  | none =>
    have hp : placeT A r i = none := by unfold placeT; rw [hh]
    rw [hp]
    exact ⟨fun h => (by cases h), fun _ => ⟨rfl, x3⟩⟩
  | some hd =>
    rw [hh] at b3
    obtain ⟨h1, h2, h3⟩ := headT_in h.ok hh
    have h2l := h2.le
    have h20 : 0 ≤ hd.l := h2.2.2.1
    refine ⟨fun _ => ⟨fun hi0 => ⟨hd.l, b3.cell 2, fun hle => ?_, fun hlt => ?_⟩, fun hi0 => ?_⟩, fun h => (by cases h)⟩
    · have hp : placeT A r i = none := by unfold placeT; rw [hh]; dsimp only; rw [if_neg (by omega)]
      rw [hp]; exact ⟨rfl, x3⟩
    · have hp : placeT A r i = some (r + i.toNat) := by unfold placeT; rw [hh]; dsimp only; rw [if_pos (by omega)]
      rw [hp]
      have er : IntKind.i64.wrap (IntKind.i64.wrap (r : Int) + i) = ((r + i.toNat : Nat) : Int) := by
        rw [wrap_i64 (n := (r : Int)) (by omega) (by omega), wrap_i64 (by omega) (by omega)]; omega
      refine ⟨⟨some ⟨b, 0, none⟩, A.ws.length, A.ws.length⟩, a3.hd.cell 1, ?_⟩
      rw [er]
      refine ⟨by omega, by show ((r + i.toNat : Nat) : Int) < ((A.ws.length : Nat) : Int); omega, _, rfl, ?_, x3⟩
      rw [Int.toNat_natCast, add_mk, Nat.zero_add]; rfl
    · have hp : placeT A r i = none := by unfold placeT; rw [hh]; dsimp only; rw [if_neg (by omega)]
      rw [hp]; exact ⟨rfl, x3⟩
theorem Cell_spec {w : World} {b g : Nat} {A : Ar} (h : ArW 92 w b g A) {r : Nat} (hr : r < 18446744073709551616) {i : Int} (hi : i ≤ 9223372036854775807) :
    Calls Try.prog 20 #[.pointer (some ⟨g, 0, none⟩), .int .u64 (r : Nat), .int .i64 i] w fun e w' => e = .returned (.tuple #[.int .u64 ((cellO A r i).1 : Nat), .int .i64 (cellO A r i).2]) ∧ Ext w w' := by
  refine vc_20 _ _ _ _ _ ?_
  simp only [eq_self, false_or, or_false, true_and, and_true, decide_eq_true_eq, decide_eq_false_iff_not, gd_st, gd_sf, exists_eq_left', exists_eq_left, Option.some.injEq, Sl.eta, Nat.reduceLeDiff, Int.reduceLE, Int.reduceLT, Int.reduceEq, Int.reduceNe, Nat.reduceMul, Nat.reduceAdd, Nat.reduceSub, Int.toNat_natCast, beq_iff_eq, bne_iff_ne, beq_eq_false_iff_ne, bne_eq_false_iff_eq, pick_and, pick_or, Bool.and_eq_true, Bool.or_eq_true, Bool.and_eq_false_iff, Bool.or_eq_false_iff, ne_eq, not_false_eq_true, Bool.not_eq_true', Bool.not_eq_false', reduceCtorEq, Nat.le_refl, Nat.zero_mul, Nat.mul_one, Nat.zero_add, Int.reduceToNat, ones, one, add_mk, Decidable.not_not, cond_true, cond_false, true_implies, false_implies, implies_true, Bool.not_true, Bool.not_false]
  refine ⟨(cell_spec h hr hi).mono ?_⟩
  rintro e w1 ⟨rfl, x1⟩
  unfold cellO
  cases hp : placeT A r i with
  | none => exact ⟨_, _, rfl, fun _ => ⟨rfl, x1⟩, fun h => (by cases h)⟩
  | some j =>
    have hj := (placeT_in h.ok hp).1
    have := (h.ext x1).wordAt hj
    rw [add_mk, Nat.zero_add] at this
    exact ⟨_, _, rfl, fun h => (by cases h), fun _ => ⟨_, rfl, _, this, rfl, x1⟩⟩
theorem SetCell_spec {w : World} {b g : Nat} {A : Ar} (h : ArW 92 w b g A) {r : Nat} (hr : r < 18446744073709551616) {i : Int} (hi : i ≤ 9223372036854775807) {x : Nat} (hx : x < 18446744073709551616) :
    Calls Try.prog 28 #[.pointer (some ⟨g, 0, none⟩), .int .u64 (r : Nat), .int .i64 i, .int .u64 (x : Nat)] w fun e w' => e = .returned (.int .i64 (setO A r i x).2) ∧ ArW 92 w' b g (setO A r i x).1 ∧ Upd (fun k => k = b) w w' := by
  refine vc_28 _ _ _ _ _ _ ?_
  simp only [eq_self, false_or, or_false, true_and, and_true, decide_eq_true_eq, decide_eq_false_iff_not, gd_st, gd_sf, exists_eq_left', exists_eq_left, Option.some.injEq, Sl.eta, Nat.reduceLeDiff, Int.reduceLE, Int.reduceLT, Int.reduceEq, Int.reduceNe, Nat.reduceMul, Nat.reduceAdd, Nat.reduceSub, Int.toNat_natCast, beq_iff_eq, bne_iff_ne, beq_eq_false_iff_ne, bne_eq_false_iff_eq, pick_and, pick_or, Bool.and_eq_true, Bool.or_eq_true, Bool.and_eq_false_iff, Bool.or_eq_false_iff, ne_eq, not_false_eq_true, Bool.not_eq_true', Bool.not_eq_false', reduceCtorEq, Nat.le_refl, Nat.zero_mul, Nat.mul_one, Nat.zero_add, Int.reduceToNat, ones, one, add_mk, Decidable.not_not, cond_true, cond_false, true_implies, false_implies, implies_true, Bool.not_true, Bool.not_false]
  refine ⟨(cell_spec h hr hi).mono ?_⟩
  rintro e w1 ⟨rfl, x1⟩
  unfold setO
  have a1 := h.ext x1
  cases hp : placeT A r i with
  | none => exact ⟨_, _, rfl, fun _ => ⟨rfl, a1, x1.toS⟩, fun h => (by cases h)⟩
  | some j =>
    have hj := (placeT_in h.ok hp).1
    have hc := a1.can hj
    rw [add_mk, Nat.zero_add] at hc
    refine ⟨_, _, rfl, fun h => (by cases h), fun _ => ⟨_, rfl, hc, fun w2 s2 => ?_⟩⟩
    obtain ⟨a2, u2⟩ := a1.put (j := j) (by decide) hx (by rw [add_mk, Nat.zero_add]; exact s2)
    exact ⟨rfl, a2, x1.upd u2⟩
def wordO (A : Ar) (i : Int) : Nat × Bool := if 0 ≤ i ∧ i < A.ws.length then (A.ws.getD i.toNat 0, true) else (0, false)
def setWO (A : Ar) (i : Int) (x : Nat) : Ar × Bool := if 0 ≤ i ∧ i < A.ws.length then (A.put i.toNat x, true) else (A, false)
theorem word_spec {w : World} {b g : Nat} {A : Ar} (h : ArW 92 w b g A) (i : Int) :
    Calls Try.prog 27 #[.pointer (some ⟨g, 0, none⟩), .int .i64 i] w fun e w' => e = .returned (.tuple #[.int .u64 ((wordO A i).1 : Nat), .bool (wordO A i).2]) ∧ w' = w := by
  refine vc_27 _ _ _ _ ?_
  simp only [eq_self, false_or, or_false, true_and, and_true, decide_eq_true_eq, decide_eq_false_iff_not, gd_st, gd_sf, exists_eq_left', exists_eq_left, Option.some.injEq, Sl.eta, Nat.reduceLeDiff, Int.reduceLE, Int.reduceLT, Int.reduceEq, Int.reduceNe, Nat.reduceMul, Nat.reduceAdd, Nat.reduceSub, Int.toNat_natCast, beq_iff_eq, bne_iff_ne, beq_eq_false_iff_ne, bne_eq_false_iff_eq, pick_and, pick_or, Bool.and_eq_true, Bool.or_eq_true, Bool.and_eq_false_iff, Bool.or_eq_false_iff, ne_eq, not_false_eq_true, Bool.not_eq_true', Bool.not_eq_false', reduceCtorEq, Nat.le_refl, Nat.zero_mul, Nat.mul_one, Nat.zero_add, Int.reduceToNat, ones, one, add_mk, Decidable.not_not, cond_true, cond_false, true_implies, false_implies, implies_true, Bool.not_true, Bool.not_false]
  refine ⟨fun h0 => ⟨⟨some ⟨b, 0, none⟩, A.ws.length, A.ws.length⟩, h.hd.cell 1, fun h1 => ?_, fun h1 => ⟨⟨some ⟨b, 0, none⟩, A.ws.length, A.ws.length⟩, h.hd.cell 1, by omega, by omega, _, rfl, _, h.wordAt (by dsimp only at h1; omega), ?_⟩⟩, fun h0 => ?_⟩
  · unfold wordO; rw [if_neg (by dsimp only at h1; omega)]; rfl
  · unfold wordO; rw [if_pos (by dsimp only at h1; omega)]
  · unfold wordO; rw [if_neg (by omega)]; rfl
theorem setWord_spec {w : World} {b g : Nat} {A : Ar} (h : ArW 92 w b g A) (i : Int) {x : Nat} (hx : x < 18446744073709551616) :
    Calls Try.prog 29 #[.pointer (some ⟨g, 0, none⟩), .int .i64 i, .int .u64 (x : Nat)] w fun e w' => e = .returned (.bool (setWO A i x).2) ∧ ArW 92 w' b g (setWO A i x).1 ∧ Upd (fun k => k = b) w w' := by
  refine vc_29 _ _ _ _ _ ?_
  simp only [eq_self, false_or, or_false, true_and, and_true, decide_eq_true_eq, decide_eq_false_iff_not, gd_st, gd_sf, exists_eq_left', exists_eq_left, Option.some.injEq, Sl.eta, Nat.reduceLeDiff, Int.reduceLE, Int.reduceLT, Int.reduceEq, Int.reduceNe, Nat.reduceMul, Nat.reduceAdd, Nat.reduceSub, Int.toNat_natCast, beq_iff_eq, bne_iff_ne, beq_eq_false_iff_ne, bne_eq_false_iff_eq, pick_and, pick_or, Bool.and_eq_true, Bool.or_eq_true, Bool.and_eq_false_iff, Bool.or_eq_false_iff, ne_eq, not_false_eq_true, Bool.not_eq_true', Bool.not_eq_false', reduceCtorEq, Nat.le_refl, Nat.zero_mul, Nat.mul_one, Nat.zero_add, Int.reduceToNat, ones, one, add_mk, Decidable.not_not, cond_true, cond_false, true_implies, false_implies, implies_true, Bool.not_true, Bool.not_false]
  refine ⟨fun h0 => ⟨⟨some ⟨b, 0, none⟩, A.ws.length, A.ws.length⟩, h.hd.cell 1, fun h1 => ?_, fun h1 => ⟨⟨some ⟨b, 0, none⟩, A.ws.length, A.ws.length⟩, h.hd.cell 1, by omega, by omega, _, rfl, h.can (by dsimp only at h1; omega), fun w1 s1 => ?_⟩⟩, fun h0 => ?_⟩
  · unfold setWO; rw [if_neg (by dsimp only at h1; omega)]; exact ⟨rfl, h, .refl _ _⟩
  · unfold setWO; rw [if_pos (by dsimp only at h1; omega)]
    obtain ⟨a1, u1⟩ := h.put (by decide) hx s1
    exact ⟨rfl, a1, u1⟩
  · unfold setWO; rw [if_neg (by omega)]; exact ⟨rfl, h, .refl _ _⟩
end Go.Proofs.Ytcmmdaginkhomaa.V
