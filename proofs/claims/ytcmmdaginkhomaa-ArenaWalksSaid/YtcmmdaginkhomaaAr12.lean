/-
  Copy.
-/
import Derived.Test.YtcmmdaginkhomaaAr11
namespace Go.Proofs.Ytcmmdaginkhomaa.V
open Go Go.RowKit
set_option linter.unusedVariables false
set_option linter.unusedSimpArgs false
set_option maxRecDepth 100000

def copyT (A : Ar) (r : Nat) : Ar × Nat × Int :=
  if A.opn = false then (A, 0, 1)
  else if r = 0 then (A, 0, 0)
  else if ¬ (A.use.f < r ∧ r ≤ A.use.e) then (A, 0, 20)
  else if A.ws.getD (r - 1) 0 % 4 = 0 ∧ (stT A A.nxt (A.ws.getD (r - 1) 0 / 4)).isSome = true then (A, A.ws.getD (r - 1) 0 / 4, 0)
  else match stT A A.use r with
    | none => (A, 0, 20)
    | some h =>
      if A.nxt.f + A.n - A.nxt.e < h.l.toNat + 2 then (A, 0, 18)
      else ({ A with ws := (layL A.ws A.nxt.e ((A.ws.drop (r - 1)).take (h.l.toNat + 2))).set (r - 1) (4 * (A.nxt.e + 1)), nxt := ⟨A.nxt.f, A.nxt.e + h.l.toNat + 2⟩ }, A.nxt.e + 1, 0)
theorem copyT_ok {A : Ar} (h : A.Ok) (r : Nat) : (copyT A r).1.Ok := by
  have h1 := h.use1; have h2 := h.useIn; have h3 := h.len; have hn := h.n
  unfold copyT
  split
  · exact h
  split
  · exact h
  split
  · exact h
  split
  · exact h
  split
  · exact h
  · rename_i ho _ _ _ _ hd hst
    have ho : A.opn = true := by simpa using ho
    have hx := h.nxt ho
    have hi := stT_in hst
    split
    · exact h
    · have hsl : ((A.ws.drop (r - 1)).take (hd.l.toNat + 2)).length = hd.l.toNat + 2 := by
        rw [List.length_take, List.length_drop]; omega
      refine ⟨h.n, ?_, fun x hx' => ?_, h.use, h.use1, fun _ => ⟨hx.1, by dsimp only; omega, by dsimp only; omega⟩, fun hf => ?_⟩
      · dsimp only; rw [List.length_set, layL_len (by rw [hsl]; omega)]; exact h.len
      · rcases List.mem_or_eq_of_mem_set hx' with h4 | h4
        · rcases layL_mem h4 with h5 | h5
          · exact h.lt x h5
          · exact h.lt x (List.mem_of_mem_drop (List.mem_of_mem_take h5))
        · rw [h4]; omega
      · dsimp only at hf; rw [ho] at hf; cases hf
theorem layL_uv {l X : List Nat} {a n : Nat} (hX : X.length = n) : (uv l).take a ++ ((uv X).take n ++ (uv l).drop (a + n)) = uv (layL l a X) := by
  have e : (uv X).take n = uv X := List.take_of_length_le (by rw [uv_length]; omega)
  unfold layL
  rw [e, hX, uv_append, uv_append, List.append_assoc]
  unfold uv
  rw [List.map_take, List.map_drop]
theorem tag_bits {x : Nat} (hx : x < 18446744073709551616) : bitV .and .u64 (x : Int) 3 = ((x % 4 : Nat) : Int) ∧ shrV .u64 (x : Int) 2 = ((x / 4 : Nat) : Int) := by
  refine ⟨?_, shr_nat .u64 x 2 (by decide)⟩
  rw [show (3 : Int) = ((3 : Nat) : Int) from rfl, and_u64 _ _ hx (by decide), show x &&& 3 = x % 4 from Nat.and_two_pow_sub_one_eq_mod x 2]
theorem copy_spec {w : World} {b g : Nat} {A : Ar} (h : ArW 92 w b g A) {r : Nat} (hr : r < 18446744073709551616) :
    Calls Try.prog 31 #[.pointer (some ⟨g, 0, none⟩), .int .u64 (r : Nat)] w fun e w' => e = .returned (.tuple #[.int .u64 ((copyT A r).2.1 : Nat), .int .i64 (copyT A r).2.2]) ∧ ArW 92 w' b g (copyT A r).1 ∧ Upd (fun k => k = b ∨ k = g) w w' := by
  refine vc_31 _ _ _ _ ?_
  have hi := h.ok.useIn; have h1 := h.ok.use1; have h2 := h.ok.nxtIn
  have hn := h.ok.n; have hlen := h.ok.len
  have hne : g ≠ b := h.hd.ne h.ws (by decide)
  have hok := copyT_ok h.ok r
  have hb0 := h.ws.lt; have hg0 := h.hd.lt
  simp only [eq_self, false_or, or_false, true_and, and_true, decide_eq_true_eq, decide_eq_false_iff_not, gd_st, gd_sf, exists_eq_left', exists_eq_left, Option.some.injEq, Sl.eta, Nat.reduceLeDiff, Int.reduceLE, Int.reduceLT, Int.reduceEq, Int.reduceNe, Nat.reduceMul, Nat.reduceAdd, Nat.reduceSub, Int.toNat_natCast, beq_iff_eq, bne_iff_ne, beq_eq_false_iff_ne, bne_eq_false_iff_eq, pick_and, pick_or, Bool.and_eq_true, Bool.or_eq_true, Bool.and_eq_false_iff, Bool.or_eq_false_iff, ne_eq, not_false_eq_true, Bool.not_eq_true', Bool.not_eq_false', reduceCtorEq, Nat.le_refl, Nat.zero_mul, Nat.mul_one, Nat.zero_add, Int.reduceToNat, ones, one, add_mk, Decidable.not_not, cond_true, cond_false, true_implies, false_implies, implies_true, Bool.not_true, Bool.not_false]
  unfold copyT at hok ⊢
  refine ⟨A.opn, h.hd.cell 6, fun ho => ?_, fun ho => ⟨fun h0 => ?_, fun h0 => ?_⟩⟩
  · rw [if_pos ho]; exact ⟨rfl, h, .refl _ _⟩
  · rw [if_neg (by rw [ho]; decide), if_pos (by omega)]; exact ⟨rfl, h, .refl _ _⟩
  have hx := h.ok.nxt ho
  rw [if_neg (by rw [ho]; decide), if_neg (by omega)] at hok ⊢
  refine ⟨_, h.hd.cell 2, fun h3 => ⟨_, h.hd.cell 3, fun h4 => ?_, fun h4 => ?_⟩, fun h3 => ?_⟩
  all_goals rw [wrap_u64 (n := (A.use.f : Int)) (by omega) (by omega)] at h3
  · rw [wrap_u64 (n := (A.use.e : Int)) (by omega) (by omega)] at h4
    rw [if_pos (by omega)]; exact ⟨rfl, h, .refl _ _⟩
  rotate_left
  · rw [if_pos (by omega)]; exact ⟨rfl, h, .refl _ _⟩
  rw [wrap_u64 (n := (A.use.e : Int)) (by omega) (by omega)] at h4
  have hin : ¬ ¬ (A.use.f < r ∧ r ≤ A.use.e) := by omega
  rw [if_neg hin] at hok ⊢
  have hrl : r - 1 < A.ws.length := by omega
  have er : IntKind.u64.wrap ((r : Int) - 1) = ((r - 1 : Nat) : Int) := by rw [wrap_u64 (by omega) (by omega)]; omega
  rw [er]
  obtain ⟨x, hx0⟩ : ∃ x, A.ws.getD (r - 1) 0 = x := ⟨_, rfl⟩
  have hxg : A.ws[r - 1]? = some x := by
    rw [List.getElem?_eq_getElem hrl, ← hx0, List.getD_eq_getElem?_getD, List.getElem?_eq_getElem hrl]; rfl
  have hxl := h.ok.lt x (List.mem_of_getElem? hxg)
  rw [hx0] at hok ⊢
  obtain ⟨e3, e4⟩ := tag_bits hxl
  refine ⟨fun w' => Ext w w' ∧ ¬ (x % 4 = 0 ∧ (stT A A.nxt (x / 4)).isSome = true), ⟨⟨some ⟨b, 0, none⟩, A.ws.length, A.ws.length⟩, h.hd.cell 1, by omega, by dsimp only; omega, _, rfl, (x : Int), by rw [Int.toNat_natCast, ← hx0]; exact h.wordAt hrl, ?_⟩, ?_⟩
  · rw [e3, e4]
    refine ⟨fun h5 => ⟨_, _, rfl, ⟨h.hd.cell 4, h.hd.cell 5⟩, ⟨(in_spec h (s := A.nxt) h2.1 h2.2.1 (r := x / 4) (by omega)).mono ?_⟩⟩, fun h5 => ⟨.refl _, fun hh => h5 (by omega)⟩⟩
    rintro e w1 ⟨rfl, x1⟩
    refine ⟨_, _, _, _, _, rfl, fun w2 n2 => ⟨rfl, HB.can n2, fun w3 s3 => ?_⟩⟩
    obtain ⟨b3, y3⟩ := HB.made n2 s3
    have x03 := x1.trans y3
    refine ⟨fun h6 => ?_, fun h6 => ⟨x03, fun hh => ?_⟩⟩
    · rw [if_pos ⟨by omega, h6⟩]
      exact ⟨rfl, h.ext x03, x03.toS⟩
    · rw [h6] at hh; exact absurd hh.2 (by decide)
  · rintro _ w1 ⟨x1, hno⟩
    rw [if_neg hno] at hok ⊢
    have a1 := h.ext x1
    refine ⟨_, _, rfl, ⟨a1.hd.cell 2, a1.hd.cell 3⟩, ⟨(in_spec a1 (s := A.use) hi.2.1 hi.2.2 hr).mono ?_⟩⟩
    rintro e w2 ⟨rfl, x2⟩
    refine ⟨_, _, _, _, _, rfl, fun w3 n3 => ⟨rfl, HB.can n3, fun w4 s4 => ?_⟩⟩
    obtain ⟨b4, y4⟩ := HB.made n3 s4
    have x04 := x1.trans (x2.trans y4)
    have a4 := h.ext x04
    cases hst : stT A A.use r with
    | none =>
      exact ⟨fun _ => ⟨rfl, a4, x04.toS⟩, fun h => (by cases h)⟩
    | some hd =>
      rw [hst] at b4 hok
      have hin2 := stT_in hst
      have m := hin2.2.1
      have ml := m.le
      have m0 : 0 ≤ hd.l := m.2.2.1
      obtain ⟨len, hlen'⟩ : ∃ n : Nat, hd.l = n := ⟨hd.l.toNat, by omega⟩
      refine ⟨fun h => (by cases h), fun _ => ⟨hd.l, b4.cell 2, _, a4.hd.cell 4, _, a4.hd.cell 0, _, a4.hd.cell 5, fun w5 q5 => ?_⟩⟩
      dsimp only at hok ⊢
      rw [hlen', Int.toNat_natCast] at hok ⊢
      rw [hlen', Int.toNat_natCast] at hin2
      have x05 := x04.trans q5.ext
      have a5 := h.ext x05
      have b5 := b4.ext q5.ext
      rw [wrap_i64 (n := (A.nxt.f : Int) + (A.n : Int)) (by omega) (by omega), wrap_i64 (n := (A.nxt.f : Int) + (A.n : Int) - (A.nxt.e : Int)) (by omega) (by omega), wrap_i64 (n := (len : Int) + 2) (by omega) (by omega)]
      refine ⟨fun h6 => ?_, fun h6 => ?_⟩
      · rw [if_pos (by omega)]; exact ⟨rfl, a5, x05.toS⟩
      have hfit : ¬ A.nxt.f + A.n - A.nxt.e < len + 2 := by omega
      rw [if_neg hfit] at hok ⊢
      intro w6 q6
      have x06 := x05.trans q6.ext
      have a6 := h.ext x06
      rw [wrap_i64 (n := (r : Int)) (by omega) (by omega), wrap_i64 (n := (r : Int) - 1) (by omega) (by omega), wrap_i64 (n := (r : Int) - 1 + ((len : Int) + 2)) (by omega) (by omega), show (r : Int) - 1 + ((len : Int) + 2) = ((r - 1 + (len + 2) : Nat) : Int) by omega]
      refine ⟨fun _ => False, ⟨some ⟨b, 0, none⟩, A.ws.length, A.ws.length⟩, fun w' u => (a6.ext u).hd.cell 1, _, fun w' u => (a6.ext u).hd.cell 5, by omega, by dsimp only; omega, ⟨some ⟨b, 0, none⟩, A.ws.length, A.ws.length⟩, fun w' u => (a6.ext u).hd.cell 1, by omega, by omega, by dsimp only; omega, ?_⟩
      simp only [Int.toNat_natCast]
      rw [if_neg (show ¬ A.ws.length = A.nxt.e by omega), if_neg (show ¬ A.ws.length = r - 1 by omega), show r - 1 + (len + 2) - (r - 1) = len + 2 by omega]
      simp only [Option.map_some, add_mk, Nat.zero_add]
      have rd6 : Rd w6 1 ⟨some ⟨b, r - 1, none⟩, len + 2, A.ws.length - (r - 1)⟩ (uv ((A.ws.drop (r - 1)).take (len + 2))) := by
        have := a6.ws.rd (z := 1) (o := r - 1) (n := len + 2) (c := A.ws.length - (r - 1)) (by rw [uv_length]; omega)
        rw [Nat.mul_one] at this
        simpa only [uv, List.map_take, List.map_drop] using this
      obtain ⟨w7, hr7, b7, u7, z7⟩ := run_copy (P := Try.prog) (t1 := 37) (t2 := 37) (ty := 3) (dn := A.ws.length - A.nxt.e) (dc := A.ws.length - A.nxt.e) tab_ok (by rfl) (by rfl) (o := A.nxt.e) a6.ws (by rw [uv_length]; omega) rd6 (uv_ones _)
      have hsl : ((A.ws.drop (r - 1)).take (len + 2)).length = len + 2 := by rw [List.length_take, List.length_drop]; omega
      rw [show min (len + 2) (A.ws.length - A.nxt.e) = len + 2 by omega] at b7
      rw [layL_uv hsl] at b7
      have hd7 := a6.hd.upd u7 hne
      refine ⟨_, w7, hr7, _, hd7.cell 5, _, hd7.cell 5, hd7.canSet 5 (by simp), fun w8 s8 => ?_⟩
      rw [wrap_i64 (n := (A.nxt.e : Int) + ((len : Int) + 2)) (by omega) (by omega), show (A.nxt.e : Int) + ((len : Int) + 2) = ((A.nxt.e + len + 2 : Nat) : Int) by omega] at s8
      have hd8 := s8.blk1 (i := 5) hd7
      have b8 := b7.upd s8.upd (Ne.symm hne)
      have hll : (layL A.ws A.nxt.e ((A.ws.drop (r - 1)).take (len + 2))).length = A.ws.length := layL_len (by rw [hsl]; omega)
      refine ⟨⟨some ⟨b, 0, none⟩, A.ws.length, A.ws.length⟩, hd8.cell 1, by omega, by dsimp only; omega, _, rfl, ?_, fun w9 s9 => ?_⟩
      · rw [add_mk, Nat.zero_add]
        exact b8.canSet _ (by rw [uv_length, hll]; omega)
      rw [add_mk, Nat.zero_add] at s9
      have et : IntKind.u64.wrap (IntKind.u64.wrap (A.nxt.e : Int) + 1) = ((A.nxt.e + 1 : Nat) : Int) := by
        rw [wrap_u64 (n := (A.nxt.e : Int)) (by omega) (by omega), wrap_u64 (by omega) (by omega)]; omega
      rw [et] at s9 ⊢
      rw [show shlV .u64 ((A.nxt.e + 1 : Nat) : Int) 2 = _ from shl_u64 (A.nxt.e + 1) 2 (by decide), Nat.mod_eq_of_lt (show (A.nxt.e + 1) * 2 ^ 2 < 18446744073709551616 by omega), show (A.nxt.e + 1) * 2 ^ 2 = 4 * (A.nxt.e + 1) by omega] at s9
      have b9 := s9.blk1 b8
      rw [uv_set] at b9
      have hd9 := hd8.upd s9.upd hne
      refine ⟨rfl, ⟨hok, ?_, b9⟩, ?_⟩
      · dsimp only
        rw [List.length_set, hll]
        exact hd9
      · have U1 : Upd (fun k => k = b ∨ k = g) w w7 := x06.upd (u7.mono fun k _ hn e => hn (.inl e))
        exact (U1.one' s8.upd (.inr rfl)).one' s9.upd (.inl rfl)
end Go.Proofs.Ytcmmdaginkhomaa.V
