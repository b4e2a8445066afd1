/-
  The document's Copy.
-/
import Derived.Test.YtcmmdaginkhomaaAr13
namespace Go.Proofs.Ytcmmdaginkhomaa.V
open Go Go.RowKit
set_option linter.unusedVariables false
set_option linter.unusedSimpArgs false
set_option maxRecDepth 100000

theorem rcopy_spec {w : World} {b g : Nat} {A : Ar} (h : ArW 76 w b g A) {r : Nat} (hr : r < 18446744073709551616) :
    Calls Try.prog 58 #[.pointer (some ⟨g, 0, none⟩), .int .u64 (r : Nat)] w fun e w' => e = .returned (.tuple #[.int .u64 ((copyT A r).2.1 : Nat), .int .i64 (copyT A r).2.2]) ∧ ArW 76 w' b g (copyT A r).1 ∧ Upd (fun k => k = b ∨ k = g) w w' := by
  refine vc_58 _ _ _ _ ?_
  have hi := h.ok.useIn; have h1 := h.ok.use1; have h2 := h.ok.nxtIn
  have hn := h.ok.n; have hlen := h.ok.len
  have hne : g ≠ b := h.hd.ne h.ws (by decide)
  have hok := copyT_ok h.ok r
  have hb0 := h.ws.lt; have hg0 := h.hd.lt
  simp only [eq_self, false_or, or_false, true_and, and_true, decide_eq_true_eq, decide_eq_false_iff_not, gd_st, gd_sf, exists_eq_left', exists_eq_left, Option.some.injEq, Sl.eta, Nat.reduceLeDiff, Int.reduceLE, Int.reduceLT, Int.reduceEq, Int.reduceNe, Nat.reduceMul, Nat.reduceAdd, Nat.reduceSub, Int.toNat_natCast, beq_iff_eq, bne_iff_ne, beq_eq_false_iff_ne, bne_eq_false_iff_eq, pick_and, pick_or, Bool.and_eq_true, Bool.or_eq_true, Bool.and_eq_false_iff, Bool.or_eq_false_iff, ne_eq, not_false_eq_true, Bool.not_eq_true', Bool.not_eq_false', reduceCtorEq, Nat.le_refl, Nat.zero_mul, Nat.mul_one, Nat.zero_add, Int.reduceToNat, ones, one, add_mk, Decidable.not_not, cond_true, cond_false, true_implies, false_implies, implies_true, Bool.not_true, Bool.not_false]
  unfold copyT at hok ⊢
  refine ⟨A.opn, h.hd.cell 6, fun ho => ?_, fun ho => ⟨fun h0 => ?_, fun h0 => ?_⟩⟩
  · rw [if_pos ho]; exact ⟨rfl, h, .refl _ _⟩
  · rw [if_neg (by rw [ho]; decide), if_pos (by omega)]; exact ⟨rfl, h, .refl _ _⟩
  have hx := h.ok.nxt ho
  rw [if_neg (by rw [ho]; decide), if_neg (by omega)] at hok ⊢
  refine ⟨_, h.hd.cell 2, fun h3 => ⟨_, h.hd.cell 3, fun h4 => ?_, fun h4 => ?_⟩, fun h3 => ?_⟩
  all_goals rw [wrap_u64 (n := (A.use.f : Int)) (by omega) (by omega), wrap_u64 (n := (A.use.f : Int) + 1) (by omega) (by omega)] at h3
  · rw [wrap_u64 (n := (A.use.e : Int)) (by omega) (by omega)] at h4
    rw [if_pos (by omega)]; exact ⟨rfl, h, .refl _ _⟩
  rotate_left
  · rw [if_pos (by omega)]; exact ⟨rfl, h, .refl _ _⟩
  rw [wrap_u64 (n := (A.use.e : Int)) (by omega) (by omega)] at h4
  have hin : ¬ ¬ (A.use.f < r ∧ r ≤ A.use.e) := by omega
  rw [if_neg hin] at hok ⊢
  have hrl : r - 1 < A.ws.length := by omega
  have er : IntKind.u64.wrap ((r : Int) - 1) = ((r - 1 : Nat) : Int) := by rw [wrap_u64 (by omega) (by omega)]; omega
  rw [er]
  obtain ⟨x, hx0⟩ : ∃ x, A.ws.getD (r - 1) 0 = x := ⟨_, rfl⟩
  have hxg : A.ws[r - 1]? = some x := by
    rw [List.getElem?_eq_getElem hrl, ← hx0, List.getD_eq_getElem?_getD, List.getElem?_eq_getElem hrl]; rfl
  have hxl := h.ok.lt x (List.mem_of_getElem? hxg)
  rw [hx0] at hok ⊢
  have e3 : (x : Int).tmod 4 = ((x % 4 : Nat) : Int) := by rw [Int.tmod_eq_emod_of_nonneg (by omega)]; omega
  have e4 : IntKind.u64.wrap ((x : Int).tdiv 4) = ((x / 4 : Nat) : Int) := by
    rw [Int.tdiv_eq_ediv_of_nonneg (by omega), wrap_u64 (by omega) (by omega)]; omega
  refine ⟨⟨some ⟨b, 0, none⟩, A.ws.length, A.ws.length⟩, h.hd.cell 1, by omega, by dsimp only; omega, _, rfl, (x : Int), by rw [Int.toNat_natCast, ← hx0]; exact h.wordAt hrl, ?_⟩
  refine ⟨fun w' => Ext w w' ∧ ¬ (x % 4 = 0 ∧ (stT A A.nxt (x / 4)).isSome = true), ?_, ?_⟩
  · rw [e3, e4]
    refine ⟨fun h5 => ⟨_, _, rfl, ⟨h.hd.cell 4, h.hd.cell 5⟩, ⟨(rin_spec h (s := A.nxt) h2.1 h2.2.1 (r := x / 4) (by omega)).mono ?_⟩⟩, fun h5 => ⟨.refl _, fun hh => h5 (by omega)⟩⟩
    rintro e w1 ⟨rfl, x1⟩
    refine ⟨_, _, _, _, _, rfl, fun w2 n2 => ⟨rfl, HB.can n2, fun w3 s3 => ?_⟩⟩
    obtain ⟨b3, y3⟩ := HB.made n2 s3
    have x03 := x1.trans y3
    refine ⟨fun h6 => ?_, fun h6 => ⟨x03, fun hh => ?_⟩⟩
    · rw [if_pos ⟨by omega, h6⟩]
      exact ⟨rfl, h.ext x03, x03.toS⟩
    · rw [h6] at hh; exact absurd hh.2 (by decide)
  · rintro _ w1 ⟨x1, hno⟩
    rw [if_neg hno] at hok ⊢
    have a1 := h.ext x1
    refine ⟨_, _, rfl, ⟨a1.hd.cell 2, a1.hd.cell 3⟩, ⟨(rin_spec a1 (s := A.use) hi.2.1 hi.2.2 hr).mono ?_⟩⟩
    rintro e w2 ⟨rfl, x2⟩
    refine ⟨_, _, _, _, _, rfl, fun w3 n3 => ⟨rfl, HB.can n3, fun w4 s4 => ?_⟩⟩
    obtain ⟨b4, y4⟩ := HB.made n3 s4
    have x04 := x1.trans (x2.trans y4)
    have a4 := h.ext x04
    cases hst : stT A A.use r with
    | none =>
      exact ⟨fun _ => ⟨rfl, a4, x04.toS⟩, fun h => (by cases h)⟩
    | some hd =>
      rw [hst] at b4 hok
      have hin2 := stT_in hst
      have m := hin2.2.1
      have ml := m.le
      have m0 : 0 ≤ hd.l := m.2.2.1
      obtain ⟨len, hlen'⟩ : ∃ n : Nat, hd.l = n := ⟨hd.l.toNat, by omega⟩
      refine ⟨fun h => (by cases h), fun _ => ⟨hd.l, b4.cell 2, _, a4.hd.cell 4, _, a4.hd.cell 0, _, a4.hd.cell 5, fun w5 q5 => ?_⟩⟩
      dsimp only at hok ⊢
      rw [hlen', Int.toNat_natCast] at hok ⊢
      rw [hlen', Int.toNat_natCast] at hin2
      have x05 := x04.trans q5.ext
      have a5 := h.ext x05
      have b5 := b4.ext q5.ext
      rw [wrap_i64 (n := (A.nxt.f : Int) + (A.n : Int)) (by omega) (by omega), wrap_i64 (n := (A.nxt.f : Int) + (A.n : Int) - (A.nxt.e : Int)) (by omega) (by omega), wrap_i64 (n := (len : Int) + 2) (by omega) (by omega)]
      refine ⟨fun h6 => ?_, fun h6 => ?_⟩
      · rw [if_pos (by omega)]; exact ⟨rfl, a5, x05.toS⟩
      have hfit : ¬ A.nxt.f + A.n - A.nxt.e < len + 2 := by omega
      rw [if_neg hfit] at hok ⊢
      intro w6 q6
      have x06 := x05.trans q6.ext
      have a6 := h.ext x06
      have b6 := b5.ext q6.ext
      refine ⟨fun _ => False, ⟨some ⟨b, 0, none⟩, A.ws.length, A.ws.length⟩, fun w' u => (a6.ext u).hd.cell 1, hd.l, fun w' u => (b6.ext u).cell 2, ?_⟩
      rw [hlen', wrap_i64 (n := (r : Int)) (by omega) (by omega), wrap_i64 (n := (r : Int) + (len : Int)) (by omega) (by omega), wrap_i64 (n := (r : Int) + (len : Int) + 1) (by omega) (by omega), show (r : Int) + (len : Int) + 1 = ((r - 1 + (len + 2) : Nat) : Int) by omega]
      refine ⟨by omega, by omega, by dsimp only; omega, fun w7 n7 => ⟨n7.ext, ?_⟩⟩
      simp only [Int.toNat_natCast]
      rw [if_neg (show ¬ A.ws.length = r - 1 by omega), show r - 1 + (len + 2) - (r - 1) = len + 2 by omega]
      simp only [Option.map_some, add_mk, Nat.zero_add]
      have a7 := a6.ext n7.ext
      have x07 := x06.trans n7.ext
      have o7 : Own w7 w6.heap.size 22 1 ⟨some ⟨w6.heap.size, 0, none⟩, 0, 0⟩ (uv []) := Own.lit (n := 0) n7 (Nat.le_refl _) rfl (by omega)
      have rd7 : Rd w7 1 ⟨some ⟨b, r - 1, none⟩, len + 2, A.ws.length - (r - 1)⟩ (uv ((A.ws.drop (r - 1)).take (len + 2))) := by
        have := a7.ws.rd (z := 1) (o := r - 1) (n := len + 2) (c := A.ws.length - (r - 1)) (by rw [uv_length]; omega)
        rw [Nat.mul_one] at this
        simpa only [uv, List.map_take, List.map_drop] using this
      have hsl : ((A.ws.drop (r - 1)).take (len + 2)).length = len + 2 := by rw [List.length_take, List.length_drop]; omega
      have hsx : ∀ y ∈ (A.ws.drop (r - 1)).take (len + 2), y < 18446744073709551616 := fun y hy => h.ok.lt y (List.mem_of_mem_drop (List.mem_of_mem_take hy))
      generalize (A.ws.drop (r - 1)).take (len + 2) = X at hok rd7 hsl hsx ⊢
      obtain ⟨r8, w8, hr8, hn8, o8, u8, _⟩ := o7.append (t := 37) (ty := 37) tab_ok (by rfl) (by rfl) (by decide) rd7 (uv_ones _) (by dsimp only; omega) (by dsimp only; omega) n7.ext.size
      have z06 := x06.size
      have x68 : Ext w6 w8 := n7.ext.fresh u8 fun k hk => by
        obtain ⟨p, hp, rfl⟩ := hk
        exact (o7.base p hp).1
      have x08 := x06.trans x68
      have a8 := h.ext x08
      have hbb := h.ws.lt
      refine ⟨r8, w8, hr8, _, _, rfl, ⟨a8.hd.cell 4, a8.hd.cell 5⟩, ⟨(lay_spec a8 A.nxt (xs := X) (show Rd w8 1 r8 (uv X) from o8.rd) (fun p hp => by have := (o8.base p hp).1; omega) (by omega) hsx).mono ?_⟩⟩
      rintro e w9 ⟨rfl, a9, u9⟩
      refine ⟨_, _, _, rfl, fun w10 n10 => ⟨rfl, (Blk.new n10).canSetN 0 2 (by simp), fun w11 s11 => ?_⟩⟩
      have k11 := s11.blk (i := 0) (Blk.new n10)
      simp only [setsL, List.set] at k11
      have z9 := u9.size
      have z8 := x08.size
      have x911 : Ext w9 w11 := n10.ext.fresh s11.upd (by rintro i rfl; exact Nat.le_refl _)
      have a11 := a9.ext x911
      refine ⟨_, _, rfl, ⟨k11.cell 0, k11.cell 1⟩, rfl, a11.hd.canSetN 4 2 (by simp), fun w12 s12 => ?_⟩
      have hd12 := s12.blk (i := 4) a11.hd
      simp only [setsL, List.set] at hd12
      have b12 := a11.ws.upd s12.upd (Ne.symm hne)
      have hll : (A.lay A.nxt.e X).ws.length = A.ws.length := layL_len (by omega)
      refine ⟨⟨some ⟨b, 0, none⟩, (A.lay A.nxt.e X).ws.length, (A.lay A.nxt.e X).ws.length⟩, hd12.cell 1, by omega, by dsimp only; omega, _, rfl, ?_, fun w13 s13 => ?_⟩
      · rw [add_mk, Nat.zero_add]
        exact b12.canSet _ (by rw [uv_length, hll]; omega)
      rw [add_mk, Nat.zero_add] at s13
      rw [wrap_u64 (n := 4 * ((A.nxt.e + 1 : Nat) : Int)) (by omega) (by omega), show 4 * ((A.nxt.e + 1 : Nat) : Int) = ((4 * (A.nxt.e + 1) : Nat) : Int) by omega] at s13
      have b13 := s13.blk1 b12
      rw [uv_set] at b13
      have hd13 := hd12.upd s13.upd hne
      refine ⟨rfl, ⟨hok, ?_, b13⟩, ?_⟩
      · dsimp only
        rw [List.length_set]
        rw [hsl] at hd13
        exact hd13
      · have U1 : Upd (fun k => k = b ∨ k = g) w w9 := x08.upd (u9.mono fun k _ hn e => hn (.inl e))
        exact ((U1.still' x911).one' s12.upd (.inr rfl)).one' s13.upd (.inl rfl)
end Go.Proofs.Ytcmmdaginkhomaa.V
