/-
  Close.
-/
import Derived.Test.YtcmmdaginkhomaaAr15
namespace Go.Proofs.Ytcmmdaginkhomaa.V
open Go Go.RowKit
set_option linter.unusedVariables false
set_option linter.unusedSimpArgs false
set_option maxRecDepth 100000

theorem run_clear0 {P : Program} {τ : Tab} (hτ : τ.Ok P) {t ty e by_ : Nat} {z : Value} (ht : lk τ.und t = some (.slice e)) (hs : lk τ.siz e = some (1, by_, [z])) {w : World} {p : Addr} {c : Nat} :
    Runs P (Builtin.clear_ #[t] ty #[.slice (some p) 0 c]) w (.tuple #[]) w := by
  obtain ⟨i, hi, hi1, hi2, hi3, zv, hz1, hz2⟩ := hτ.siz _ _ _ _ hs
  have hu := hτ.slice ht
  unfold Runs
  simp [Builtin.clear_, run_underlying hu, zeroValue, typeInfo, hi, hz1]
theorem close_spec {w : World} {b g : Nat} {A : Ar} (h : ArW 92 w b g A) (zero : Bool) :
    Calls Try.prog 32 #[.pointer (some ⟨g, 0, none⟩), .bool zero] w fun e w' => e = .returned (.int .i64 (closeT A zero).2) ∧ ArW 92 w' b g (closeT A zero).1 ∧ Upd (fun k => k = b ∨ k = g) w w' := by
  refine vc_32 _ _ _ _ ?_
  have hi := h.ok.useIn; have h1 := h.ok.use1
  have hn := h.ok.n; have hlen := h.ok.len
  have hne : g ≠ b := h.hd.ne h.ws (by decide)
  have hok := closeT_ok h.ok zero
  simp only [eq_self, false_or, or_false, true_and, and_true, decide_eq_true_eq, decide_eq_false_iff_not, gd_st, gd_sf, exists_eq_left', exists_eq_left, Option.some.injEq, Sl.eta, Nat.reduceLeDiff, Int.reduceLE, Int.reduceLT, Int.reduceEq, Int.reduceNe, Nat.reduceMul, Nat.reduceAdd, Nat.reduceSub, Int.toNat_natCast, beq_iff_eq, bne_iff_ne, beq_eq_false_iff_ne, bne_eq_false_iff_eq, pick_and, pick_or, Bool.and_eq_true, Bool.or_eq_true, Bool.and_eq_false_iff, Bool.or_eq_false_iff, ne_eq, not_false_eq_true, Bool.not_eq_true', Bool.not_eq_false', reduceCtorEq, Nat.le_refl, Nat.zero_mul, Nat.mul_one, Nat.zero_add, Int.reduceToNat, ones, one, add_mk, Decidable.not_not, cond_true, cond_false, true_implies, false_implies, implies_true, Bool.not_true, Bool.not_false]
  unfold closeT at hok ⊢
  refine ⟨A.opn, h.hd.cell 6, fun ho => ?_, fun ho => ?_⟩
  · rw [if_pos ho]; exact ⟨rfl, h, .refl _ _⟩
  rw [if_neg (by rw [ho]; decide)] at hok ⊢
  obtain ⟨W, hW⟩ : ∃ W, (if zero = true then layL A.ws A.use.f (List.replicate A.n 0) else A.ws) = W := ⟨_, rfl⟩
  have hWl : W.length = A.ws.length := by
    rw [← hW]; split
    · exact layL_len (by rw [List.length_replicate]; omega)
    · rfl
  rw [hW] at hok ⊢
  refine ⟨fun w' => Blk w' g 92 [.int .i64 (A.n : Nat), .slice (some ⟨b, 0, none⟩) A.ws.length A.ws.length, .int .i64 (A.use.f : Nat), .int .i64 (A.use.e : Nat), .int .i64 (A.nxt.f : Nat), .int .i64 (A.nxt.e : Nat), .bool A.opn] ∧ Blk w' b 22 (uv W) ∧ Upd (fun k => k = b ∨ k = g) w w', ⟨fun hz w1 q1 => ?_, fun hz => ?_⟩, ?_⟩
  · have a1 := h.ext q1.ext
    refine ⟨fun _ => False, ⟨some ⟨b, 0, none⟩, A.ws.length, A.ws.length⟩, fun w' u => (a1.ext u).hd.cell 1, _, fun w' u => (a1.ext u).hd.cell 2, _, fun w' u => (a1.ext u).hd.cell 2, _, fun w' u => (a1.ext u).hd.cell 0, ?_⟩
    rw [wrap_i64 (n := (A.use.f : Int) + (A.n : Int)) (by omega) (by omega), show (A.use.f : Int) + (A.n : Int) = ((A.use.f + A.n : Nat) : Int) by omega]
    refine ⟨by omega, by omega, by dsimp only; omega, ?_⟩
    simp only [Int.toNat_natCast]
    rw [show A.use.f + A.n - A.use.f = A.n by omega]
    have hW' : W = layL A.ws A.use.f (List.replicate A.n 0) := by rw [← hW, if_pos hz]
    by_cases h0 : A.n = 0
    · have hws : A.ws = [] := List.eq_nil_of_length_eq_zero (by omega)
      have hWn : W = A.ws := by rw [hws]; exact List.eq_nil_of_length_eq_zero (by rw [hWl, hws]; rfl)
      by_cases hc : A.ws.length = A.use.f
      · rw [if_pos hc]
        exact ⟨.tuple #[], w1, by rw [h0]; exact run_clear0 (z := .int .u64 0) tab_ok (by rfl) (by rfl), a1.hd, by rw [hWn]; exact a1.ws, q1.ext.toS⟩
      · rw [if_neg hc]
        exact ⟨.tuple #[], w1, by rw [h0]; exact run_clear0 (z := .int .u64 0) tab_ok (by rfl) (by rfl), a1.hd, by rw [hWn]; exact a1.ws, q1.ext.toS⟩
    · rw [if_neg (show ¬ A.ws.length = A.use.f by omega)]
      simp only [Option.map_some, add_mk, Nat.zero_add]
      obtain ⟨w2, hr2, b2, u2, z2⟩ := run_clear (P := Try.prog) (z := .int .u64 0) (t := 37) (ty := 0) (n := A.n) (o := A.use.f) (c := A.ws.length - A.use.f) tab_ok (by rfl) (by rfl) trivial a1.ws (by rw [uv_length]; omega) (by omega)
      rw [setsL_rep _ _ _ (by rw [uv_length, List.length_replicate]; omega), List.length_replicate] at b2
      refine ⟨_, w2, hr2, a1.hd.upd u2 hne, ?_, q1.ext.upd (u2.mono fun k _ hn e => hn (.inl e))⟩
      rw [hW']
      unfold layL
      rw [List.length_replicate]
      simp only [uv, List.map_append, List.map_take, List.map_drop, List.map_replicate] at b2 ⊢
      exact b2
  · have hW' : W = A.ws := by rw [← hW, if_neg (by rw [hz]; decide)]
    exact ⟨h.hd, by rw [hW']; exact h.ws, .refl _ _⟩
  · rintro _ w1 ⟨k1, b1, u1⟩
    refine ⟨_, _, rfl, ⟨k1.cell 4, k1.cell 5⟩, rfl, k1.canSetN 2 2 (by simp), fun w2 s2 => ?_⟩
    have k2 := s2.blk (i := 2) k1
    simp only [setsL, List.set] at k2
    refine ⟨k2.canSetN 4 2 (by simp), fun w3 s3 => ?_⟩
    have k3 := s3.blk (i := 4) k2
    simp only [setsL, List.set] at k3
    refine ⟨k3.canSet 6 (by simp), fun w4 s4 => ?_⟩
    have k4 := s4.blk1 (i := 6) k3
    have b4 := ((b1.upd s2.upd (Ne.symm hne)).upd s3.upd (Ne.symm hne)).upd s4.upd (Ne.symm hne)
    refine ⟨rfl, ⟨hok, ?_, b4⟩, ((u1.one' s2.upd (.inr rfl)).one' s3.upd (.inr rfl)).one' s4.upd (.inr rfl)⟩
    dsimp only
    rw [hWl]
    exact k4
end Go.Proofs.Ytcmmdaginkhomaa.V
