/-
  The document's End.
-/
import Derived.Test.YtcmmdaginkhomaaAr16
namespace Go.Proofs.Ytcmmdaginkhomaa.V
open Go Go.RowKit
set_option linter.unusedVariables false
set_option linter.unusedSimpArgs false
set_option maxRecDepth 100000

theorem end_spec {w : World} {b g : Nat} {A : Ar} (h : ArW 76 w b g A) (zero : Bool) :
    Calls Try.prog 60 #[.pointer (some ⟨g, 0, none⟩), .bool zero] w fun e w' => e = .returned (.int .i64 (closeT A zero).2) ∧ ArW 76 w' b g (closeT A zero).1 ∧ Upd (fun k => k = b ∨ k = g) w w' := by
  refine vc_60 _ _ _ _ ?_
  have hi := h.ok.useIn; have h1 := h.ok.use1
  have hn := h.ok.n; have hlen := h.ok.len
  have hne : g ≠ b := h.hd.ne h.ws (by decide)
  have hok := closeT_ok h.ok zero
  simp only [eq_self, false_or, or_false, true_and, and_true, decide_eq_true_eq, decide_eq_false_iff_not, gd_st, gd_sf, exists_eq_left', exists_eq_left, Option.some.injEq, Sl.eta, Nat.reduceLeDiff, Int.reduceLE, Int.reduceLT, Int.reduceEq, Int.reduceNe, Nat.reduceMul, Nat.reduceAdd, Nat.reduceSub, Int.toNat_natCast, beq_iff_eq, bne_iff_ne, beq_eq_false_iff_ne, bne_eq_false_iff_eq, pick_and, pick_or, Bool.and_eq_true, Bool.or_eq_true, Bool.and_eq_false_iff, Bool.or_eq_false_iff, ne_eq, not_false_eq_true, Bool.not_eq_true', Bool.not_eq_false', reduceCtorEq, Nat.le_refl, Nat.zero_mul, Nat.mul_one, Nat.zero_add, Int.reduceToNat, ones, one, add_mk, Decidable.not_not, cond_true, cond_false, true_implies, false_implies, implies_true, Bool.not_true, Bool.not_false]
  unfold closeT at hok ⊢
  refine ⟨A.opn, h.hd.cell 6, fun ho => ?_, fun ho => ?_⟩
  · rw [if_pos ho]; exact ⟨rfl, h, .refl _ _⟩
  rw [if_neg (by rw [ho]; decide)] at hok ⊢
  obtain ⟨W, hW⟩ : ∃ W, (if zero = true then layL A.ws A.use.f (List.replicate A.n 0) else A.ws) = W := ⟨_, rfl⟩
  have hWl : W.length = A.ws.length := by
    rw [← hW]; split
    · exact layL_len (by rw [List.length_replicate]; omega)
    · rfl
  rw [hW] at hok ⊢
  refine ⟨fun w' => Blk w' g 76 [.int .i64 (A.n : Nat), .slice (some ⟨b, 0, none⟩) A.ws.length A.ws.length, .int .i64 (A.use.f : Nat), .int .i64 (A.use.e : Nat), .int .i64 (A.nxt.f : Nat), .int .i64 (A.nxt.e : Nat), .bool A.opn] ∧ Blk w' b 22 (uv W) ∧ Upd (fun k => k = b ∨ k = g) w w', ?_, ?_⟩
  · refine ⟨fun n w' => 0 ≤ n ∧ n ≤ A.n ∧ (zero = false → n = 0) ∧ ArW 76 w' b g (A.lay A.use.f (List.replicate n.toNat 0)) ∧ Upd (fun k => k = b ∨ k = g) w w', fun n _ => (A.n - n).toNat, ⟨by omega, by omega, fun _ => rfl, ?_, .refl _ _⟩, ?_⟩
    · show ArW _ w b g (A.lay A.use.f [])
      unfold Ar.lay
      rw [layL_nil]
      exact h
    rintro _ n w1 ⟨m0, m1, mz, a1, u1⟩
    obtain ⟨n, rfl⟩ : ∃ k : Nat, n = k := ⟨n.toNat, by omega⟩
    rw [Int.toNat_natCast] at a1
    have hl1 : (A.lay A.use.f (List.replicate n 0)).ws.length = A.ws.length := layL_len (by rw [List.length_replicate]; omega)
    have hd1 : Blk w1 g 76 [.int .i64 (A.n : Nat), .slice (some ⟨b, 0, none⟩) A.ws.length A.ws.length, .int .i64 (A.use.f : Nat), .int .i64 (A.use.e : Nat), .int .i64 (A.nxt.f : Nat), .int .i64 (A.nxt.e : Nat), .bool A.opn] := by
      rw [← hl1]; exact a1.hd
    have stop : n = A.n ∨ zero = false → Blk w1 b 22 (uv W) := by
      intro hh
      have hws := a1.ws
      have : (A.lay A.use.f (List.replicate n 0)).ws = W := by
        rw [← hW]
        unfold Ar.lay
        cases hz : zero with
        | true =>
          rcases hh with hh | hh
          · rw [if_pos rfl, hh]
          · rw [hh] at hz; cases hz
        | false =>
          have : n = 0 := by have := mz hz; omega
          rw [if_neg (by decide), this]
          exact layL_nil _ _
      rw [this] at hws
      exact hws
    refine ⟨_, hd1.cell 0, fun hlt => ⟨fun hz w2 q2 => ?_, fun hz => ⟨hd1, stop (.inr hz), u1⟩⟩, fun hge => ⟨hd1, stop (.inl (by omega)), u1⟩⟩
    have a2 := a1.ext q2.ext
    have hd2 := hd1.ext q2.ext
    refine ⟨fun _ => False, ⟨some ⟨b, 0, none⟩, A.ws.length, A.ws.length⟩, fun w' u => (hd2.ext u).cell 1, _, fun w' u => (hd2.ext u).cell 2, ?_⟩
    rw [wrap_i64 (n := (A.use.f : Int) + (n : Int)) (by omega) (by omega), show (A.use.f : Int) + (n : Int) = ((A.use.f + n : Nat) : Int) by omega, Int.toNat_natCast]
    refine ⟨by omega, by dsimp only; omega, _, rfl, a2.can (by omega), fun w3 s3 => ?_⟩
    obtain ⟨a3, u3⟩ := a2.put (x := 0) (by decide) (by decide) s3
    refine ⟨⟨by (first | (rw [wrap_i64 (by omega) (by omega)]; omega) | (dsimp only; rw [wrap_i64 (by omega) (by omega)]; omega) | (dsimp only; omega)), by (first | (rw [wrap_i64 (by omega) (by omega)]; omega) | (dsimp only; rw [wrap_i64 (by omega) (by omega)]; omega) | (dsimp only; omega)), fun hf => (by rw [hz] at hf; cases hf), ?_, (u1.still' q2.ext).one' u3 (.inl rfl)⟩, by (first | (rw [wrap_i64 (by omega) (by omega)]; omega) | (dsimp only; rw [wrap_i64 (by omega) (by omega)]; omega) | (dsimp only; omega))⟩
    rw [wrap_i64 (by omega) (by omega), show ((n : Int) + 1).toNat = n + 1 by omega]
    have e : (A.lay A.use.f (List.replicate n 0)).put (A.use.f + n) 0 = A.lay A.use.f (List.replicate (n + 1) 0) := by
      unfold Ar.lay Ar.put
      dsimp only
      have := layL_snoc (l := A.ws) (xs := List.replicate n 0) (a := A.use.f) (x := 0) (by rw [List.length_replicate]; omega)
      rw [List.length_replicate] at this
      rw [this, List.replicate_succ']
    rw [← e]
    exact a3
  · rintro _ w1 ⟨k1, b1, u1⟩
    refine ⟨_, _, rfl, ⟨k1.cell 4, k1.cell 5⟩, rfl, k1.canSetN 2 2 (by simp), fun w2 s2 => ?_⟩
    have k2 := s2.blk (i := 2) k1
    simp only [setsL, List.set] at k2
    refine ⟨k2.canSetN 4 2 (by simp), fun w3 s3 => ?_⟩
    have k3 := s3.blk (i := 4) k2
    simp only [setsL, List.set] at k3
    refine ⟨k3.canSet 6 (by simp), fun w4 s4 => ?_⟩
    have k4 := s4.blk1 (i := 6) k3
    have b4 := ((b1.upd s2.upd (Ne.symm hne)).upd s3.upd (Ne.symm hne)).upd s4.upd (Ne.symm hne)
    refine ⟨rfl, ⟨hok, ?_, b4⟩, ((u1.one' s2.upd (.inr rfl)).one' s3.upd (.inr rfl)).one' s4.upd (.inr rfl)⟩
    dsimp only
    rw [hWl]
    exact k4
end Go.Proofs.Ytcmmdaginkhomaa.V
