/-
  Cells and words of the document's arena; New, Used, Left.
-/
import Derived.Test.YtcmmdaginkhomaaAr6
namespace Go.Proofs.Ytcmmdaginkhomaa.V
open Go Go.RowKit
set_option linter.unusedVariables false
set_option linter.unusedSimpArgs false
set_option maxRecDepth 100000

theorem rCell_spec {w : World} {b g : Nat} {A : Ar} (h : ArW 76 w b g A) {r : Nat} (hr : r < 18446744073709551616) {i : Int} (hi : i ≤ 9223372036854775807) :
    Calls Try.prog 49 #[.pointer (some ⟨g, 0, none⟩), .int .u64 (r : Nat), .int .i64 i] w fun e w' => e = .returned (.tuple #[.int .u64 ((cellO A r i).1 : Nat), .int .i64 (cellO A r i).2]) ∧ Ext w w' := by
  refine vc_49 _ _ _ _ _ ?_
  have hn := h.ok.n; have hlen := h.ok.len
  simp only [eq_self, false_or, or_false, true_and, and_true, decide_eq_true_eq, decide_eq_false_iff_not, gd_st, gd_sf, exists_eq_left', exists_eq_left, Option.some.injEq, Sl.eta, Nat.reduceLeDiff, Int.reduceLE, Int.reduceLT, Int.reduceEq, Int.reduceNe, Nat.reduceMul, Nat.reduceAdd, Nat.reduceSub, Int.toNat_natCast, beq_iff_eq, bne_iff_ne, beq_eq_false_iff_ne, bne_eq_false_iff_eq, pick_and, pick_or, Bool.and_eq_true, Bool.or_eq_true, Bool.and_eq_false_iff, Bool.or_eq_false_iff, ne_eq, not_false_eq_true, Bool.not_eq_true', Bool.not_eq_false', reduceCtorEq, Nat.le_refl, Nat.zero_mul, Nat.mul_one, Nat.zero_add, Int.reduceToNat, ones, one, add_mk, Decidable.not_not, cond_true, cond_false, true_implies, false_implies, implies_true, Bool.not_true, Bool.not_false]
  refine ⟨(rheader_spec h hr).mono ?_⟩
  rintro e w1 ⟨rfl, x1⟩
  refine ⟨_, _, _, _, _, rfl, fun w2 n2 => ⟨rfl, HB.can n2, fun w3 s3 => ?_⟩⟩
  obtain ⟨b3, y3⟩ := HB.made n2 s3
  have x3 := x1.trans y3
  have a3 := h.ext x3
  unfold cellO
  cases hh : headT A r with
  | none =>
    have hp : placeT A r i = none := by unfold placeT; rw [hh]
    rw [hp]
    exact ⟨fun h => (by cases h), fun _ => ⟨rfl, x3⟩⟩
  | some hd =>
    rw [hh] at b3
    obtain ⟨h1, h2, h3⟩ := headT_in h.ok hh
    have h2l := h2.le
    have h20 : 0 ≤ hd.l := h2.2.2.1
    refine ⟨fun _ => ⟨fun hi0 => ⟨hd.l, b3.cell 2, fun hle => ?_, fun hlt => ?_⟩, fun hi0 => ?_⟩, fun h => (by cases h)⟩
    · have hp : placeT A r i = none := by unfold placeT; rw [hh]; dsimp only; rw [if_neg (by omega)]
      rw [hp]; exact ⟨rfl, x3⟩
    · have hp : placeT A r i = some (r + i.toNat) := by unfold placeT; rw [hh]; dsimp only; rw [if_pos (by omega)]
      rw [hp]
      have er : IntKind.i64.wrap (IntKind.i64.wrap (r : Int) + i) = ((r + i.toNat : Nat) : Int) := by
        rw [wrap_i64 (n := (r : Int)) (by omega) (by omega), wrap_i64 (by omega) (by omega)]; omega
      refine ⟨⟨some ⟨b, 0, none⟩, A.ws.length, A.ws.length⟩, a3.hd.cell 1, ?_⟩
      rw [er]
      exact ⟨by omega, by show ((r + i.toNat : Nat) : Int) < ((A.ws.length : Nat) : Int); omega, _, rfl, _, by rw [Int.toNat_natCast]; exact a3.wordAt (by omega), rfl, x3⟩
    · have hp : placeT A r i = none := by unfold placeT; rw [hh]; dsimp only; rw [if_neg (by omega)]
      rw [hp]; exact ⟨rfl, x3⟩
theorem rSetCell_spec {w : World} {b g : Nat} {A : Ar} (h : ArW 76 w b g A) {r : Nat} (hr : r < 18446744073709551616) {i : Int} (hi : i ≤ 9223372036854775807) {x : Nat} (hx : x < 18446744073709551616) :
    Calls Try.prog 50 #[.pointer (some ⟨g, 0, none⟩), .int .u64 (r : Nat), .int .i64 i, .int .u64 (x : Nat)] w fun e w' => e = .returned (.int .i64 (setO A r i x).2) ∧ ArW 76 w' b g (setO A r i x).1 ∧ Upd (fun k => k = b) w w' := by
  refine vc_50 _ _ _ _ _ _ ?_
  have hn := h.ok.n; have hlen := h.ok.len
  simp only [eq_self, false_or, or_false, true_and, and_true, decide_eq_true_eq, decide_eq_false_iff_not, gd_st, gd_sf, exists_eq_left', exists_eq_left, Option.some.injEq, Sl.eta, Nat.reduceLeDiff, Int.reduceLE, Int.reduceLT, Int.reduceEq, Int.reduceNe, Nat.reduceMul, Nat.reduceAdd, Nat.reduceSub, Int.toNat_natCast, beq_iff_eq, bne_iff_ne, beq_eq_false_iff_ne, bne_eq_false_iff_eq, pick_and, pick_or, Bool.and_eq_true, Bool.or_eq_true, Bool.and_eq_false_iff, Bool.or_eq_false_iff, ne_eq, not_false_eq_true, Bool.not_eq_true', Bool.not_eq_false', reduceCtorEq, Nat.le_refl, Nat.zero_mul, Nat.mul_one, Nat.zero_add, Int.reduceToNat, ones, one, add_mk, Decidable.not_not, cond_true, cond_false, true_implies, false_implies, implies_true, Bool.not_true, Bool.not_false]
  refine ⟨(rheader_spec h hr).mono ?_⟩
  rintro e w1 ⟨rfl, x1⟩
  refine ⟨_, _, _, _, _, rfl, fun w2 n2 => ⟨rfl, HB.can n2, fun w3 s3 => ?_⟩⟩
  obtain ⟨b3, y3⟩ := HB.made n2 s3
  have x3 := x1.trans y3
  have a3 := h.ext x3
  unfold setO
  cases hh : headT A r with
  | none =>
    have hp : placeT A r i = none := by unfold placeT; rw [hh]
    rw [hp]
    exact ⟨fun h => (by cases h), fun _ => ⟨rfl, a3, x3.toS⟩⟩
  | some hd =>
    rw [hh] at b3
    obtain ⟨h1, h2, h3⟩ := headT_in h.ok hh
    have h2l := h2.le
    have h20 : 0 ≤ hd.l := h2.2.2.1
    refine ⟨fun _ => ⟨fun hi0 => ⟨hd.l, b3.cell 2, fun hle => ?_, fun hlt => ?_⟩, fun hi0 => ?_⟩, fun h => (by cases h)⟩
    · have hp : placeT A r i = none := by unfold placeT; rw [hh]; dsimp only; rw [if_neg (by omega)]
      rw [hp]; exact ⟨rfl, a3, x3.toS⟩
    · have hp : placeT A r i = some (r + i.toNat) := by unfold placeT; rw [hh]; dsimp only; rw [if_pos (by omega)]
      rw [hp]
      have er : IntKind.i64.wrap (IntKind.i64.wrap (r : Int) + i) = ((r + i.toNat : Nat) : Int) := by
        rw [wrap_i64 (n := (r : Int)) (by omega) (by omega), wrap_i64 (by omega) (by omega)]; omega
      refine ⟨⟨some ⟨b, 0, none⟩, A.ws.length, A.ws.length⟩, a3.hd.cell 1, ?_⟩
      rw [er]
      refine ⟨by omega, by show ((r + i.toNat : Nat) : Int) < ((A.ws.length : Nat) : Int); omega, _, rfl, by rw [Int.toNat_natCast]; exact a3.can (by omega), fun w4 s4 => ?_⟩
      obtain ⟨a4, u4⟩ := a3.put (j := r + i.toNat) (by decide) hx s4
      exact ⟨rfl, a4, x3.upd u4⟩
    · have hp : placeT A r i = none := by unfold placeT; rw [hh]; dsimp only; rw [if_neg (by omega)]
      rw [hp]; exact ⟨rfl, a3, x3.toS⟩
theorem rword_spec {w : World} {b g : Nat} {A : Ar} (h : ArW 76 w b g A) (i : Int) :
    Calls Try.prog 51 #[.pointer (some ⟨g, 0, none⟩), .int .i64 i] w fun e w' => e = .returned (.tuple #[.int .u64 ((wordO A i).1 : Nat), .bool (wordO A i).2]) ∧ w' = w := by
  refine vc_51 _ _ _ _ ?_
  simp only [eq_self, false_or, or_false, true_and, and_true, decide_eq_true_eq, decide_eq_false_iff_not, gd_st, gd_sf, exists_eq_left', exists_eq_left, Option.some.injEq, Sl.eta, Nat.reduceLeDiff, Int.reduceLE, Int.reduceLT, Int.reduceEq, Int.reduceNe, Nat.reduceMul, Nat.reduceAdd, Nat.reduceSub, Int.toNat_natCast, beq_iff_eq, bne_iff_ne, beq_eq_false_iff_ne, bne_eq_false_iff_eq, pick_and, pick_or, Bool.and_eq_true, Bool.or_eq_true, Bool.and_eq_false_iff, Bool.or_eq_false_iff, ne_eq, not_false_eq_true, Bool.not_eq_true', Bool.not_eq_false', reduceCtorEq, Nat.le_refl, Nat.zero_mul, Nat.mul_one, Nat.zero_add, Int.reduceToNat, ones, one, add_mk, Decidable.not_not, cond_true, cond_false, true_implies, false_implies, implies_true, Bool.not_true, Bool.not_false]
  refine ⟨fun h0 => ⟨⟨some ⟨b, 0, none⟩, A.ws.length, A.ws.length⟩, h.hd.cell 1, fun h1 => ?_, fun h1 => ⟨⟨some ⟨b, 0, none⟩, A.ws.length, A.ws.length⟩, h.hd.cell 1, by omega, by omega, _, rfl, _, h.wordAt (by dsimp only at h1; omega), ?_⟩⟩, fun h0 => ?_⟩
  · unfold wordO; rw [if_neg (by dsimp only at h1; omega)]; rfl
  · unfold wordO; rw [if_pos (by dsimp only at h1; omega)]
  · unfold wordO; rw [if_neg (by omega)]; rfl
theorem rsetWord_spec {w : World} {b g : Nat} {A : Ar} (h : ArW 76 w b g A) (i : Int) {x : Nat} (hx : x < 18446744073709551616) :
    Calls Try.prog 52 #[.pointer (some ⟨g, 0, none⟩), .int .i64 i, .int .u64 (x : Nat)] w fun e w' => e = .returned (.bool (setWO A i x).2) ∧ ArW 76 w' b g (setWO A i x).1 ∧ Upd (fun k => k = b) w w' := by
  refine vc_52 _ _ _ _ _ ?_
  simp only [eq_self, false_or, or_false, true_and, and_true, decide_eq_true_eq, decide_eq_false_iff_not, gd_st, gd_sf, exists_eq_left', exists_eq_left, Option.some.injEq, Sl.eta, Nat.reduceLeDiff, Int.reduceLE, Int.reduceLT, Int.reduceEq, Int.reduceNe, Nat.reduceMul, Nat.reduceAdd, Nat.reduceSub, Int.toNat_natCast, beq_iff_eq, bne_iff_ne, beq_eq_false_iff_ne, bne_eq_false_iff_eq, pick_and, pick_or, Bool.and_eq_true, Bool.or_eq_true, Bool.and_eq_false_iff, Bool.or_eq_false_iff, ne_eq, not_false_eq_true, Bool.not_eq_true', Bool.not_eq_false', reduceCtorEq, Nat.le_refl, Nat.zero_mul, Nat.mul_one, Nat.zero_add, Int.reduceToNat, ones, one, add_mk, Decidable.not_not, cond_true, cond_false, true_implies, false_implies, implies_true, Bool.not_true, Bool.not_false]
  refine ⟨fun h0 => ⟨⟨some ⟨b, 0, none⟩, A.ws.length, A.ws.length⟩, h.hd.cell 1, fun h1 => ?_, fun h1 => ⟨⟨some ⟨b, 0, none⟩, A.ws.length, A.ws.length⟩, h.hd.cell 1, by omega, by omega, _, rfl, h.can (by dsimp only at h1; omega), fun w1 s1 => ?_⟩⟩, fun h0 => ?_⟩
  · unfold setWO; rw [if_neg (by dsimp only at h1; omega)]; exact ⟨rfl, h, .refl _ _⟩
  · unfold setWO; rw [if_pos (by dsimp only at h1; omega)]
    obtain ⟨a1, u1⟩ := h.put (by decide) hx s1
    exact ⟨rfl, a1, u1⟩
  · unfold setWO; rw [if_neg (by omega)]; exact ⟨rfl, h, .refl _ _⟩
/-- an arena that nothing is laid in -/
def newA (n : Nat) : Ar := ⟨n, List.replicate (2 * n) 0, ⟨0, 0⟩, ⟨0, 0⟩, false⟩
theorem newA_ok {n : Nat} (h : n ≤ 65536) : (newA n).Ok :=
  ⟨h, by simp [newA], fun x hx => by rw [List.eq_of_mem_replicate hx]; decide, .inl rfl, ⟨Nat.le_refl _, by simp [newA]⟩, fun h => (by cases h), fun _ => rfl⟩
theorem new_made {t : Nat} {w w1 w2 : World} {n : Nat} (h : n ≤ 65536) (n1 : NewW w (.cells (zrow [.int .u64 0] (2 * n)) 22) w1)
    (n2 : NewW w1 (.cells #[.int .i64 (n : Nat), .slice (some ⟨w.heap.size, 0, none⟩) (2 * n) (2 * n), .int .i64 0, .int .i64 0, .int .i64 0, .int .i64 0, .bool false] t) w2) : ArW t w2 w.heap.size w1.heap.size (newA n) := by
  have k1 := (Blk.new n1).ext n2.ext
  rw [zrow_one] at k1
  refine ⟨newA_ok h, ?_, ?_⟩
  · have := Blk.new n2
    show Blk w2 w1.heap.size t [.int .i64 (n : Nat), .slice (some ⟨w.heap.size, 0, none⟩) (List.replicate (2 * n) 0).length (List.replicate (2 * n) 0).length, .int .i64 0, .int .i64 0, .int .i64 0, .int .i64 0, .bool false]
    rw [List.length_replicate]
    exact this
  · show Blk w2 w.heap.size _ (uv (List.replicate (2 * n) 0))
    rw [show uv (List.replicate (2 * n) 0) = List.replicate (2 * n) (.int .u64 0) by simp [uv]]
    exact k1
theorem new_spec {n : Int} (h1 : n ≤ 9223372036854775807) (w : World) :
    Calls Try.prog 16 #[.int .i64 n] w fun e w' => Ext w w' ∧ ((¬ (0 ≤ n ∧ n ≤ 65536) ∧ e = .returned (.tuple #[.pointer none, .int .i64 1])) ∨
      (∃ (k b g : Nat), n = k ∧ k ≤ 65536 ∧ e = .returned (.tuple #[.pointer (some ⟨g, 0, none⟩), .int .i64 0]) ∧ w.heap.size ≤ b ∧ w.heap.size ≤ g ∧ ArW 92 w' b g (newA k))) := by
  refine vc_16 _ _ _ ?_
  simp only [eq_self, false_or, or_false, true_and, and_true, decide_eq_true_eq, decide_eq_false_iff_not, gd_st, gd_sf, exists_eq_left', exists_eq_left, Option.some.injEq, Sl.eta, Nat.reduceLeDiff, Int.reduceLE, Int.reduceLT, Int.reduceEq, Int.reduceNe, Nat.reduceMul, Nat.reduceAdd, Nat.reduceSub, Int.toNat_natCast, beq_iff_eq, bne_iff_ne, beq_eq_false_iff_ne, bne_eq_false_iff_eq, pick_and, pick_or, Bool.and_eq_true, Bool.or_eq_true, Bool.and_eq_false_iff, Bool.or_eq_false_iff, ne_eq, not_false_eq_true, Bool.not_eq_true', Bool.not_eq_false', reduceCtorEq, Nat.le_refl, Nat.zero_mul, Nat.mul_one, Nat.zero_add, Int.reduceToNat, ones, one, add_mk, Decidable.not_not, cond_true, cond_false, true_implies, false_implies, implies_true, Bool.not_true, Bool.not_false]
  refine ⟨fun h0 => ⟨fun h2 => ⟨.refl _, .inl (by omega)⟩, fun h2 => ?_⟩, fun h0 => ⟨.refl _, .inl (by omega)⟩⟩
  obtain ⟨k, rfl⟩ : ∃ k : Nat, n = k := ⟨n.toNat, by omega⟩
  rw [show IntKind.i64.wrap (2 * (k : Int)) = ((2 * k : Nat) : Int) by rw [wrap_i64 (by omega) (by omega)]; omega]
  refine ⟨⟨by omega, by omega, by omega, by omega⟩, fun w1 n1 => ⟨by simp [len', wr, splice, rep], fun w2 n2 => ⟨n1.ext.trans n2.ext, .inr ⟨k, w.heap.size, w1.heap.size, rfl, by omega, rfl, Nat.le_refl _, n1.ext.size, ?_⟩⟩⟩⟩
  rw [Int.toNat_natCast] at n1 n2
  exact new_made (by omega) n1 n2
theorem rnew_spec {n : Int} (h1 : n ≤ 9223372036854775807) (w : World) :
    Calls Try.prog 26 #[.int .i64 n] w fun e w' => Ext w w' ∧ ((¬ (0 ≤ n ∧ n ≤ 65536) ∧ e = .returned (.tuple #[.pointer none, .int .i64 1])) ∨
      (∃ (k b g : Nat), n = k ∧ k ≤ 65536 ∧ e = .returned (.tuple #[.pointer (some ⟨g, 0, none⟩), .int .i64 0]) ∧ w.heap.size ≤ b ∧ w.heap.size ≤ g ∧ ArW 76 w' b g (newA k))) := by
  refine vc_26 _ _ _ ?_
  simp only [eq_self, false_or, or_false, true_and, and_true, decide_eq_true_eq, decide_eq_false_iff_not, gd_st, gd_sf, exists_eq_left', exists_eq_left, Option.some.injEq, Sl.eta, Nat.reduceLeDiff, Int.reduceLE, Int.reduceLT, Int.reduceEq, Int.reduceNe, Nat.reduceMul, Nat.reduceAdd, Nat.reduceSub, Int.toNat_natCast, beq_iff_eq, bne_iff_ne, beq_eq_false_iff_ne, bne_eq_false_iff_eq, pick_and, pick_or, Bool.and_eq_true, Bool.or_eq_true, Bool.and_eq_false_iff, Bool.or_eq_false_iff, ne_eq, not_false_eq_true, Bool.not_eq_true', Bool.not_eq_false', reduceCtorEq, Nat.le_refl, Nat.zero_mul, Nat.mul_one, Nat.zero_add, Int.reduceToNat, ones, one, add_mk, Decidable.not_not, cond_true, cond_false, true_implies, false_implies, implies_true, Bool.not_true, Bool.not_false]
  refine ⟨fun h0 => ⟨fun h2 => ⟨.refl _, .inl (by omega)⟩, fun h2 => ?_⟩, fun h0 => ⟨.refl _, .inl (by omega)⟩⟩
  obtain ⟨k, rfl⟩ : ∃ k : Nat, n = k := ⟨n.toNat, by omega⟩
  rw [show IntKind.i64.wrap (2 * (k : Int)) = ((2 * k : Nat) : Int) by rw [wrap_i64 (by omega) (by omega)]; omega]
  refine ⟨⟨by omega, by omega, by omega, by omega⟩, fun w1 n1 => ⟨by simp [len', wr, splice, rep], fun w2 n2 => ⟨n1.ext.trans n2.ext, .inr ⟨k, w.heap.size, w1.heap.size, rfl, by omega, rfl, Nat.le_refl _, n1.ext.size, ?_⟩⟩⟩⟩
  rw [Int.toNat_natCast] at n1 n2
  exact new_made (by omega) n1 n2
theorem words_spec {w : World} {b g : Nat} {A : Ar} (h : ArW 92 w b g A) : Calls Try.prog 25 #[.pointer (some ⟨g, 0, none⟩)] w fun e w' => e = .returned (.int .i64 (A.n : Nat)) ∧ w' = w := by
  refine vc_25 _ _ _ ?_
  simp only [eq_self, false_or, or_false, true_and, and_true, decide_eq_true_eq, decide_eq_false_iff_not, gd_st, gd_sf, exists_eq_left', exists_eq_left, Option.some.injEq, Sl.eta, Nat.reduceLeDiff, Int.reduceLE, Int.reduceLT, Int.reduceEq, Int.reduceNe, Nat.reduceMul, Nat.reduceAdd, Nat.reduceSub, Int.toNat_natCast, beq_iff_eq, bne_iff_ne, beq_eq_false_iff_ne, bne_eq_false_iff_eq, pick_and, pick_or, Bool.and_eq_true, Bool.or_eq_true, Bool.and_eq_false_iff, Bool.or_eq_false_iff, ne_eq, not_false_eq_true, Bool.not_eq_true', Bool.not_eq_false', reduceCtorEq, Nat.le_refl, Nat.zero_mul, Nat.mul_one, Nat.zero_add, Int.reduceToNat, ones, one, add_mk, Decidable.not_not, cond_true, cond_false, true_implies, false_implies, implies_true, Bool.not_true, Bool.not_false]
  exact ⟨_, h.hd.cell 0, rfl⟩
theorem used_spec {w : World} {b g : Nat} {A : Ar} (h : ArW 92 w b g A) : Calls Try.prog 23 #[.pointer (some ⟨g, 0, none⟩)] w fun e w' => e = .returned (.int .i64 (A.use.e - A.use.f : Nat)) ∧ Qt w w' := by
  refine vc_23 _ _ _ ?_
  have h1 := h.ok.use1; have h2 := h.ok.useIn; have hn := h.ok.n
  simp only [eq_self, false_or, or_false, true_and, and_true, decide_eq_true_eq, decide_eq_false_iff_not, gd_st, gd_sf, exists_eq_left', exists_eq_left, Option.some.injEq, Sl.eta, Nat.reduceLeDiff, Int.reduceLE, Int.reduceLT, Int.reduceEq, Int.reduceNe, Nat.reduceMul, Nat.reduceAdd, Nat.reduceSub, Int.toNat_natCast, beq_iff_eq, bne_iff_ne, beq_eq_false_iff_ne, bne_eq_false_iff_eq, pick_and, pick_or, Bool.and_eq_true, Bool.or_eq_true, Bool.and_eq_false_iff, Bool.or_eq_false_iff, ne_eq, not_false_eq_true, Bool.not_eq_true', Bool.not_eq_false', reduceCtorEq, Nat.le_refl, Nat.zero_mul, Nat.mul_one, Nat.zero_add, Int.reduceToNat, ones, one, add_mk, Decidable.not_not, cond_true, cond_false, true_implies, false_implies, implies_true, Bool.not_true, Bool.not_false]
  refine ⟨_, h.hd.cell 3, _, h.hd.cell 2, fun w1 q1 => ⟨ri ?_, q1⟩⟩
  rw [wrap_i64 (by omega) (by omega)]; omega
theorem rused_spec {w : World} {b g : Nat} {A : Ar} (h : ArW 76 w b g A) : Calls Try.prog 54 #[.pointer (some ⟨g, 0, none⟩)] w fun e w' => e = .returned (.int .i64 (A.use.e - A.use.f : Nat)) ∧ Qt w w' := by
  refine vc_54 _ _ _ ?_
  have h1 := h.ok.use1; have h2 := h.ok.useIn; have hn := h.ok.n
  simp only [eq_self, false_or, or_false, true_and, and_true, decide_eq_true_eq, decide_eq_false_iff_not, gd_st, gd_sf, exists_eq_left', exists_eq_left, Option.some.injEq, Sl.eta, Nat.reduceLeDiff, Int.reduceLE, Int.reduceLT, Int.reduceEq, Int.reduceNe, Nat.reduceMul, Nat.reduceAdd, Nat.reduceSub, Int.toNat_natCast, beq_iff_eq, bne_iff_ne, beq_eq_false_iff_ne, bne_eq_false_iff_eq, pick_and, pick_or, Bool.and_eq_true, Bool.or_eq_true, Bool.and_eq_false_iff, Bool.or_eq_false_iff, ne_eq, not_false_eq_true, Bool.not_eq_true', Bool.not_eq_false', reduceCtorEq, Nat.le_refl, Nat.zero_mul, Nat.mul_one, Nat.zero_add, Int.reduceToNat, ones, one, add_mk, Decidable.not_not, cond_true, cond_false, true_implies, false_implies, implies_true, Bool.not_true, Bool.not_false]
  refine ⟨_, h.hd.cell 3, _, h.hd.cell 2, fun w1 q1 => ⟨ri ?_, q1⟩⟩
  rw [wrap_i64 (by omega) (by omega)]; omega
theorem left_spec {w : World} {b g : Nat} {A : Ar} (h : ArW 92 w b g A) : Calls Try.prog 24 #[.pointer (some ⟨g, 0, none⟩)] w fun e w' => e = .returned (.int .i64 (A.n - (A.use.e - A.use.f) : Nat)) ∧ Qt w w' := by
  refine vc_24 _ _ _ ?_
  have h1 := h.ok.use1; have h2 := h.ok.useIn; have hn := h.ok.n
  simp only [eq_self, false_or, or_false, true_and, and_true, decide_eq_true_eq, decide_eq_false_iff_not, gd_st, gd_sf, exists_eq_left', exists_eq_left, Option.some.injEq, Sl.eta, Nat.reduceLeDiff, Int.reduceLE, Int.reduceLT, Int.reduceEq, Int.reduceNe, Nat.reduceMul, Nat.reduceAdd, Nat.reduceSub, Int.toNat_natCast, beq_iff_eq, bne_iff_ne, beq_eq_false_iff_ne, bne_eq_false_iff_eq, pick_and, pick_or, Bool.and_eq_true, Bool.or_eq_true, Bool.and_eq_false_iff, Bool.or_eq_false_iff, ne_eq, not_false_eq_true, Bool.not_eq_true', Bool.not_eq_false', reduceCtorEq, Nat.le_refl, Nat.zero_mul, Nat.mul_one, Nat.zero_add, Int.reduceToNat, ones, one, add_mk, Decidable.not_not, cond_true, cond_false, true_implies, false_implies, implies_true, Bool.not_true, Bool.not_false]
  intro w1 q1
  have a1 := h.ext q1.ext
  refine ⟨fun _ => False, _, fun w' u => (a1.ext u).hd.cell 0, ⟨(used_spec a1).mono ?_⟩⟩
  rintro e w2 ⟨rfl, q2⟩
  refine ⟨_, rfl, q2.ext, ri ?_, q1.trans q2⟩
  rw [wrap_i64 (by omega) (by omega)]; omega
end Go.Proofs.Ytcmmdaginkhomaa.V
