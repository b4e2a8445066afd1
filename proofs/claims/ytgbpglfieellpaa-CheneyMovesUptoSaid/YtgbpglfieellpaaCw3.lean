/-
  laid.
-/
import Derived.Test.YtgbpglfieellpaaCg4
namespace Go.Proofs.Ytgbpglfieellpaa.V
open Go Go.RowKit
set_option linter.unusedVariables false
set_option linter.unusedSimpArgs false
set_option maxRecDepth 100000

def copied (t : Th) (i a : Nat) : Nat := if kindT t ≠ 3 ∧ a < t.cs.length ∧ ¬ (kindT t = 1 ∧ cN t ≤ a ∧ a < i) then t.cs.getD a 0 else 0
def rowC (t : Th) (i : Nat) : List Nat := (List.range (lenT t)).map (copied t i)
theorem rowC_len (t : Th) (i : Nat) : (rowC t i).length = lenT t := by simp [rowC]
theorem rowC_get {t : Th} {i a : Nat} (h : a < lenT t) : (rowC t i)[a]? = some (copied t i a) := by
  unfold rowC; rw [List.getElem?_map, List.getElem?_range h]; rfl
theorem rowC_copy {t : Th} (h : kindT t ≠ 3) : t.cs.take (min t.cs.length (lenT t)) ++ (List.replicate (lenT t) 0).drop (min t.cs.length (lenT t)) = rowC t 0 := by
  apply List.ext_getElem?
  intro a
  have hl : (t.cs.take (min t.cs.length (lenT t))).length = min t.cs.length (lenT t) := by rw [List.length_take]; omega
  by_cases ha : a < lenT t
  · rw [rowC_get ha]
    by_cases hc : a < t.cs.length
    · rw [List.getElem?_append_left (by omega), List.getElem?_take, if_pos (by omega)]
      unfold copied
      rw [if_pos ⟨h, hc, by omega⟩, List.getD_eq_getElem?_getD, List.getElem?_eq_getElem hc]; rfl
    · rw [List.getElem?_append_right (by omega), List.getElem?_drop, hl, List.getElem?_replicate, if_pos (by omega)]
      unfold copied
      rw [if_neg (by omega)]
  · rw [List.getElem?_eq_none (l := rowC t 0) (by rw [rowC_len]; omega), List.getElem?_eq_none]
    rw [List.length_append, hl, List.length_drop, List.length_replicate]; omega
theorem rowC_refs {t : Th} (h : kindT t = 3) : List.replicate (lenT t) 0 = rowC t 0 := by
  apply List.ext_getElem?
  intro a
  by_cases ha : a < lenT t
  · rw [rowC_get ha, List.getElem?_replicate, if_pos ha]
    unfold copied
    rw [if_neg (fun hh => hh.1 h)]
  · rw [List.getElem?_eq_none (l := rowC t 0) (by rw [rowC_len]; omega), List.getElem?_eq_none (by simpa using ha)]
theorem rowC_set {t : Th} {i : Nat} (hi : i < lenT t) (h : kindT t = 1 ∧ cN t ≤ i) : (rowC t i).set i 0 = rowC t (i + 1) := by
  apply List.ext_getElem?
  intro a
  rw [List.getElem?_set, rowC_len]
  by_cases ha : a < lenT t
  · rw [rowC_get ha, rowC_get ha]
    unfold copied
    by_cases he : i = a
    · subst he
      rw [if_pos rfl, if_pos ha, if_neg (by omega)]
    · rw [if_neg he]
      congr 1
      by_cases h1 : kindT t ≠ 3 ∧ a < t.cs.length ∧ ¬ (kindT t = 1 ∧ cN t ≤ a ∧ a < i)
      · rw [if_pos h1, if_pos ⟨h1.1, h1.2.1, by omega⟩]
      · rw [if_neg h1, if_neg (fun hh => h1 ⟨hh.1, hh.2.1, by omega⟩)]
  · rw [if_neg (by omega), List.getElem?_eq_none (by rw [rowC_len]; omega), List.getElem?_eq_none (by rw [rowC_len]; omega)]
theorem rowC_same {t : Th} {i : Nat} (h : ¬ (kindT t = 1 ∧ cN t ≤ i)) : rowC t i = rowC t (i + 1) := by
  unfold rowC
  refine List.map_congr_left fun a _ => ?_
  unfold copied
  by_cases h1 : kindT t ≠ 3 ∧ a < t.cs.length ∧ ¬ (kindT t = 1 ∧ cN t ≤ a ∧ a < i)
  · rw [if_pos h1, if_pos ⟨h1.1, h1.2.1, by omega⟩]
  · rw [if_neg h1, if_neg (fun hh => h1 ⟨hh.1, hh.2.1, by omega⟩)]
theorem rowC_done {t : Th} {i : Nat} (hi : lenT t ≤ i) : rowC t i = cells0 t := by
  unfold rowC cells0
  refine List.map_congr_left fun a ha => ?_
  have ha := List.mem_range.1 ha
  unfold copied
  have hl : cN t ≤ t.cs.length := by unfold cN; omega
  have h9 : cN t = min t.cs.length 9 := rfl
  by_cases h1 : kindT t ≠ 3 ∧ a < cN t
  · rw [if_pos h1, if_pos ⟨h1.1, by omega, by omega⟩]
  · rw [if_neg h1]
    by_cases h3 : kindT t = 3
    · rw [if_neg (fun hh => hh.1 h3)]
    · have hc : cN t ≤ a := by omega
      rcases kindT_cases t with h | h | h
      · rw [if_neg (fun hh => hh.2.2 ⟨h, hc, by omega⟩)]
      · unfold lenT at ha; rw [if_neg (by omega), if_pos h] at ha; omega
      · exact absurd h h3
theorem uv_zeros (n : Nat) : List.replicate n (Value.int .u64 0) = uv (List.replicate n 0) := by simp [uv]
theorem Own.some_of {w : World} {B e : Nat} {s : Sl} {x : Value} {xs : List Value} (h : Own w B e 1 s (xs ++ [x])) : ∃ p, s.a = some p := by
  cases ha : s.a with
  | some p => exact ⟨p, rfl⟩
  | none => have := (h.none_ ha).2; simp at this
theorem laid_spec {W0 w : World} {s : Sl} {ts : List Th} {b g : Nat} {A0 : Ar} (hT : ThsIs W0 s ts) (x0 : Ext W0 w) (hN : ts.length ≤ 1000) (h : ArW 76 w b g A0) (ho : A0.opn = false) (hfit : A0.use.e - A0.use.f + roomT ts ≤ A0.n) (hbg : W0.heap.size ≤ b ∧ W0.heap.size ≤ g) :
    Calls Try.prog 10 #[.pointer (some ⟨g, 0, none⟩), .slice s.a s.n s.c] w fun e w' => ∃ s' A' p', e = .returned (.slice s'.a s'.n s'.c) ∧ s'.a = some p' ∧ Own w' w.heap.size 23 1 s' (uv ((List.range ts.length).map (toR ts A0.use.e))) ∧ ArW 76 w' b g A' ∧ LayS ts A0 ts.length 0 A' ∧ Upd (fun k => k = b ∨ k = g) w w' := by
  refine vc_10 _ _ _ _ ?_
  have hn := hT.n
  have ok0 := h.ok
  have hb0 := h.ws.lt; have hg0 := h.hd.lt
  have hu0 := ok0.use1; have hn0 := ok0.n; have hin0 := ok0.useIn
  have z0 := x0.size
  simp only [eq_self, false_or, or_false, true_and, and_true, decide_eq_true_eq, decide_eq_false_iff_not, gd_st, gd_sf, exists_eq_left', exists_eq_left, Option.some.injEq, Sl.eta, Nat.reduceLeDiff, Int.reduceLE, Int.reduceLT, Int.reduceEq, Int.reduceNe, Nat.reduceMul, Nat.reduceAdd, Nat.reduceSub, Int.toNat_natCast, beq_iff_eq, bne_iff_ne, beq_eq_false_iff_ne, bne_eq_false_iff_eq, pick_and, pick_or, Bool.and_eq_true, Bool.or_eq_true, Bool.and_eq_false_iff, Bool.or_eq_false_iff, ne_eq, not_false_eq_true, Bool.not_eq_true', Bool.not_eq_false', reduceCtorEq, Nat.le_refl, Nat.zero_mul, Nat.mul_one, Nat.zero_add, Int.reduceToNat, ones, one, add_mk, Decidable.not_not, cond_true, cond_false, true_implies, false_implies, implies_true, Bool.not_true, Bool.not_false]
  intro w1 n1
  have z1 := n1.size
  refine ⟨fun r k w' => ∃ i A p, k = (i : Nat) ∧ i ≤ ts.length ∧ r.a = some p ∧ Own w' w.heap.size 23 1 r (uv ((List.range i).map (toR ts A0.use.e))) ∧ ArW 76 w' b g A ∧ LayP ts A0 i A ∧ Upd (fun k => k = b ∨ k = g) w w', fun _ k _ => (ts.length - k).toNat,
    ⟨0, A0, _, rfl, Nat.zero_le _, rfl, Own.lit (z := 1) (n := 0) (cs := []) n1 (Nat.le_refl _) rfl (by decide), h.ext n1.ext, .start ok0 ho, n1.ext.toS⟩, ?_⟩
  rintro _ r k w2 ⟨i, A, p, rfl, hi, hp, o2, a2, L2, u2⟩
  have z2 := u2.size
  have x2 : Ext W0 w2 := x0.fresh u2 (by rintro k (rfl | rfl) <;> omega)
  refine ⟨fun hlt => ?_, fun hge => ?_⟩
  · obtain ⟨t, ht⟩ : ∃ t, ts[i]? = some t := ⟨_, List.getElem?_eq_getElem (by omega)⟩
    obtain ⟨q, c, m, hq, hth, hcb, hnb, hc5⟩ := hT.thn ht
    obtain ⟨hcs, _, _⟩ := hc5 w2 x2
    refine ⟨by omega, hlt, q, hq, t.K, t.T, c, m, rfl, by rw [Int.toNat_natCast]; exact hcs, ⟨(header_spec13 hth).mono ?_⟩⟩
    rintro e w3 ⟨rfl, x3⟩
    refine ⟨_, _, _, _, rfl, fun w4 n4 => ⟨rfl, HB.can n4, fun w5 s5 => ?_⟩⟩
    obtain ⟨hb5, x35⟩ := HB.made (h := hdrT t) n4 s5
    have z3 := x3.size; have z35 := x35.size; have l5 := hb5.lt
    have hl18 := lenT_le t
    have ell : (hdrT t).l = ((lenT t : Nat) : Int) := hdrT_l t
    refine ⟨_, hb5.cell 2, ⟨by omega, by omega, by omega, by omega⟩, fun w6 n6 => ?_⟩
    rw [ell] at n6 ⊢
    rw [Int.toNat_natCast] at n6 ⊢
    have z6 := n6.size
    have x26 := (x3.trans x35).trans n6.ext
    have b6 := Blk.new n6
    rw [zrow_one, uv_zeros] at b6
    have hb6 := hb5.ext n6.ext
    obtain ⟨hcs6, rc6, _⟩ := hc5 w6 (x2.trans x26)
    have ek : (hdrT t).k = kindT t := hdrT_k t
    refine ⟨fun w' => Blk w' w5.heap.size 23 (uv (rowC t 0)) ∧ HB w' w3.heap.size (hdrT t) ∧ Ext w2 w', ⟨_, hb6.cell 0, fun h3 => ?_, fun h3 => ?_⟩, ?_⟩
    · refine ⟨by omega, hlt, q, hq, c, hcs6.2.2.1, ?_⟩
      obtain ⟨w', r', b', u', z'⟩ := run_copy (t1 := 30) (t2 := 30) (ty := 3) tab_ok (by rfl) (by rfl) (o := 0) (dn := lenT t) (dc := lenT t) b6 (by simp) rc6 (uv_ones _)
      refine ⟨_, w', r', ?_, hb6.upd u' (by omega), x26.fresh u' (by rintro k rfl; omega)⟩
      rw [List.take_zero, List.nil_append, Nat.zero_add, ← hth.c.symm] at b'
      have : (uv t.cs).take (min t.cs.length (lenT t)) ++ (uv (List.replicate (lenT t) 0)).drop (min t.cs.length (lenT t)) = uv (rowC t 0) := by
        rw [← rowC_copy (by rw [← ek]; exact h3)]
        simp [uv]
      rw [this] at b'
      exact b'
    · rw [rowC_refs (by rw [← ek]; exact h3)] at b6
      exact ⟨b6, hb6, x26⟩
    rintro _ w7 ⟨b7, hb7, x27⟩
    refine ⟨fun n w' => ∃ a : Nat, n = a ∧ a ≤ lenT t ∧ Blk w' w5.heap.size 23 (uv (rowC t a)) ∧ HB w' w3.heap.size (hdrT t) ∧ Ext w2 w', fun n _ => (lenT t - n).toNat, ⟨0, rfl, Nat.zero_le _, b7, hb7, x27⟩, ?_⟩
    rintro _ n w8 ⟨a, rfl, ha, b8, hb8, x28⟩
    have ea : IntKind.i64.wrap ((a : Int) + 1) = ((a + 1 : Nat) : Int) := by rw [wrap_i64 (by omega) (by omega)]; omega
    rw [ea]
    have e9c : (if 9 < (c.n : Int) then (9 : Int) else (c.n : Int)) = ((cN t : Nat) : Int) := by rw [min9]; unfold cN; rw [hth.c]
    have hnx : ¬ (kindT t = 1 ∧ cN t ≤ a) → a < lenT t → (∃ a' : Nat, ((a + 1 : Nat) : Int) = a' ∧ a' ≤ lenT t ∧ Blk w8 w5.heap.size 23 (uv (rowC t a')) ∧ HB w8 w3.heap.size (hdrT t) ∧ Ext w2 w8) := fun hh hlt => ⟨a + 1, rfl, by omega, by rw [← rowC_same hh]; exact b8, hb8, x28⟩
    refine ⟨_, hb8.cell 2, fun hal => ⟨_, hb8.cell 0, fun h1 => ?_, fun h1 => ?_⟩, fun hal => ?_⟩
    · obtain ⟨hcs8, _, _⟩ := hc5 w8 (x2.trans x28)
      refine ⟨by omega, hlt, q, hq, c, hcs8.2.2.1, fun h9 => ?_, fun h9 => ?_⟩
      · rw [e9c] at h9
        rw [Int.toNat_natCast]
        refine ⟨by omega, by omega, b8.canSet a (by simp [rowC_len]; omega), fun w9 s9 => ?_⟩
        have b9 := s9.blk1 b8
        rw [Int.toNat_natCast, show (Value.int .u64 0) = Value.int .u64 ((0 : Nat) : Int) from rfl, uv_set, rowC_set (by omega) ⟨by omega, by omega⟩] at b9
        exact ⟨⟨a + 1, rfl, by omega, b9, hb8.upd s9.upd (by dsimp only; omega), x28.fresh s9.upd (by rintro k rfl; dsimp only; omega)⟩, by dsimp only; omega⟩
      · rw [e9c] at h9
        exact ⟨hnx (by omega) (by omega), by dsimp only; omega⟩
    · exact ⟨hnx (by omega) (by omega), by dsimp only; omega⟩
    · have hal' : a = lenT t := by omega
      subst hal'
      rw [rowC_done (Nat.le_refl _)] at b8
      have a8 := a2.ext x28
      have z8 := x28.size
      have rd8 : Rd w8 1 ⟨some ⟨w5.heap.size, 0, none⟩, lenT t, lenT t⟩ (uv (cells0 t)) := by
        have := b8.words
        rw [cells0_len] at this; exact this
      refine ⟨_, _, _, _, rfl, ⟨hb8.cell 0, hb8.cell 1, hb8.cell 2, hb8.cell 3⟩, ⟨(make_spec a8 (hdrT t) rd8 (by rintro p' hp'; cases hp'; rintro (e | e) <;> (dsimp only at e; omega)) (by rw [cells0_len]; omega) (cells0_lt hcb)).mono ?_⟩⟩
      rintro e w9 ⟨rfl, a9, u9⟩
      obtain ⟨A9, e9, L9⟩ := L2.make ok0 ht hcb hfit
      rw [e9] at a9 ⊢
      have hple := posR_le ts (i + 1)
      rw [posR_succ ht] at hple
      refine ⟨_, _, rfl, fun hh => absurd rfl hh, fun _ w10 n10 => ?_⟩
      have z9 := u9.size; have z10 := n10.size
      have o10 := ((o2.ext x28).upd u9 (fun q' hq' => by have := o2.base q' hq'; rintro (e | e) <;> omega)).ext n10.ext
      have k10 : Rd w10 1 ⟨some ⟨w9.heap.size, 0, none⟩, 1, 1⟩ (uv [A0.use.e + posR ts i + 1]) := (Blk.new n10).rd (z := 1) (o := 0) (n := 1) (c := 1) (by simp)
      have hrn := o2.len1
      rw [uv_length, List.length_map, List.length_range] at hrn
      obtain ⟨s', w11, hr', hn', o11, u11, c11⟩ := o10.append (t := 30) (ty := 30) tab_ok (by rfl) (by rfl) (by decide) k10 (uv_ones _) (by dsimp only; omega) (by dsimp only; omega) (by omega)
      have ei : IntKind.i64.wrap ((i : Int) + 1) = ((i + 1 : Nat) : Int) := by rw [wrap_i64 (by omega) (by omega)]; omega
      rw [ei]
      obtain ⟨p', hp'⟩ := o11.some_of
      have hS : ∀ k, (∃ p, r.a = some p ∧ k = p.block) → w.heap.size ≤ k := by rintro k ⟨q', hq', rfl⟩; exact (o2.base q' hq').1
      have U : Upd (fun k => k = b ∨ k = g) w w11 := (((u2.trans x28 fun _ _ hn => ⟨hn, not_false⟩).trans u9 fun _ _ hn => ⟨hn, hn⟩).trans n10.ext fun _ _ hn => ⟨hn, not_false⟩).trans u11 fun k hk hn => ⟨hn, fun hx => by have := hS k hx; omega⟩
      refine ⟨s', w11, hr', ⟨i + 1, A9, p', rfl, by omega, hp', ?_, (a9.ext n10.ext).upd u11 (fun hx => by have := hS _ hx; omega) (fun hx => by have := hS _ hx; omega), L9, U⟩, by dsimp only; omega⟩
      rw [List.range_succ, List.map_append, uv_append]
      exact o11
  · have hi' : i = ts.length := by omega
    subst hi'
    refine ⟨fun k w' => ∃ (i : Nat) (A' : Ar), k = (i : Nat) ∧ i ≤ ts.length ∧ ArW 76 w' b g A' ∧ LayS ts A0 i 0 A' ∧ Upd (fun k => k = b ∨ k = g) w2 w', fun k _ => (ts.length - k).toNat, ⟨0, A, rfl, Nat.zero_le _, a2, L2.second, (Ext.refl _).toS⟩, ?_⟩
    rintro _ _ w3 ⟨i, A3, rfl, hi, a3, L3, u3⟩
    have ei : IntKind.i64.wrap ((i : Int) + 1) = ((i + 1 : Nat) : Int) := by rw [wrap_i64 (by omega) (by omega)]; omega
    have hoff : r.off fun k => k = b ∨ k = g := fun q' hq' => by have := o2.base q' hq'; rintro (e | e) <;> omega
    have hrn := o2.len1
    rw [uv_length, List.length_map, List.length_range] at hrn
    refine ⟨fun hlt => ?_, fun hge => ?_⟩
    · obtain ⟨t, ht⟩ : ∃ t, ts[i]? = some t := ⟨_, List.getElem?_eq_getElem (by omega)⟩
      obtain ⟨q, c, m, hq, hth, hcb, hnb, hc5⟩ := hT.thn ht
      have x3 : Ext W0 w3 := x2.fresh u3 (by rintro k (rfl | rfl) <;> omega)
      obtain ⟨hcs, _, _⟩ := hc5 w3 x3
      refine ⟨by omega, hlt, q, hq, t.K, t.T, c, m, rfl, by rw [Int.toNat_natCast]; exact hcs, ⟨(header_spec13 hth).mono ?_⟩⟩
      rintro e w4 ⟨rfl, x4⟩
      refine ⟨_, _, _, _, rfl, fun w5 n5 => ⟨rfl, HB.can n5, fun w6 s6 => ?_⟩⟩
      obtain ⟨hb6, x46⟩ := HB.made (h := hdrT t) n5 s6
      have z3 := u3.size; have z4 := x4.size; have z46 := x46.size; have l6 := hb6.lt
      have hl18 := lenT_le t
      have ell : (hdrT t).l = ((lenT t : Nat) : Int) := hdrT_l t
      have x36 := x4.trans x46
      refine ⟨fun k w' => ∃ (a : Nat) (A' : Ar), k = (a : Nat) ∧ a ≤ lenT t ∧ ArW 76 w' b g A' ∧ LayS ts A0 i a A' ∧ HB w' w4.heap.size (hdrT t) ∧ Upd (fun k => k = b ∨ k = g) w3 w', fun k _ => (lenT t - k).toNat, ⟨0, A3, rfl, Nat.zero_le _, a3.ext x36, L3, hb6, x36.toS⟩, ?_⟩
      rintro _ _ w7 ⟨a, A7, rfl, ha, a7, L7, hb7, u7⟩
      have ea : IntKind.i64.wrap ((a : Int) + 1) = ((a + 1 : Nat) : Int) := by rw [wrap_i64 (by omega) (by omega)]; omega
      rw [ei, ea]
      have z7 := u7.size
      refine ⟨_, hb7.cell 2, fun hal => fun w8 q8 => ?_, fun hal => ⟨⟨i + 1, A7, rfl, by omega, a7, L7.next ht (by omega), u3.trans u7 fun _ _ hn => ⟨hn, hn⟩⟩, by dsimp only; omega⟩⟩
      have x8 := q8.ext
      have x08 : Ext W0 w8 := (x3.fresh u7 (by rintro k (rfl | rfl) <;> omega)).trans x8
      have hb8 := hb7.ext x8
      have z8 := x8.size
      refine ⟨fun _ => False, by omega, hlt, q, hq, t.K, t.T, c, m, rfl, fun v u => ?_, _, _, _, _, rfl, fun v u => ⟨(hb8.ext u).cell 0, (hb8.ext u).cell 1, (hb8.ext u).cell 2, (hb8.ext u).cell 3⟩, ⟨?_⟩⟩
      · obtain ⟨hcs, _, _⟩ := hc5 v (x08.trans u)
        rw [Int.toNat_natCast]; exact hcs
      obtain ⟨_, _, rm8⟩ := hc5 w8 x08
      rw [← hn]
      refine (named_spec (N := ts.length) (i := a) hth rm8 hnb (by omega) (by omega)).mono ?_
      rintro e w9 ⟨rfl, x9⟩
      refine ⟨_, rfl, fun w10 q10 => ?_⟩
      have x10 := q10.ext
      have x70 := (x8.trans x9).trans x10
      have u70 : Upd (fun k => k = b ∨ k = g) w3 w10 := u7.trans x70 fun _ _ hn => ⟨hn, not_false⟩
      cases hnm : namT ts.length t a with
      | none =>
        have e1 : namI ts.length t a = -1 := by unfold namI; rw [hnm]
        rw [e1]
        exact ⟨fun _ => False, fun hh => absurd hh (by decide), fun _ => ⟨⟨a + 1, A7, rfl, by omega, a7.ext x70, L7.skip ht hnm, hb7.ext x70, u70⟩, by dsimp only; omega⟩⟩
      | some k =>
        have e1 : namI ts.length t a = (k : Nat) := by unfold namI; rw [hnm]
        have hk := namT_lt hnm
        rw [e1]
        have o10 := (((o2.upd u3 hoff).upd u7 hoff).ext x70).rd
        obtain ⟨p1, y1, hp1, hy1, hc1⟩ := o10.word i (by omega)
        obtain ⟨p2, y2, hp2, hy2, hc2⟩ := o10.word k (by omega)
        rw [List.getElem?_map, List.getElem?_range (by omega)] at hy1 hy2
        injection hy1 with hy1; injection hy2 with hy2
        subst hy1; subst hy2
        have hk1 := posR_le ts k; have hi1 := posR_le ts i
        refine ⟨fun _ => False, fun _ => ⟨by omega, by omega, p1, hp1, ((toR ts A0.use.e i : Nat) : Int), fun v u => ?_, by omega, by omega, p2, hp2, ((toR ts A0.use.e k : Nat) : Int), fun v u => ?_, ⟨?_⟩⟩, fun hh => by omega⟩
        · have := (((o2.upd u3 hoff).upd u7 hoff).ext (x70.trans u)).rd.word i (by omega)
          obtain ⟨p', y', hp', hy', hc'⟩ := this
          rw [hp1] at hp'; injection hp' with hp'; subst hp'
          rw [List.getElem?_map, List.getElem?_range (by omega)] at hy'
          injection hy' with hy'; subst hy'
          rw [Nat.mul_one] at hc'
          rw [Int.toNat_natCast]; exact hc'
        · have := (((o2.upd u3 hoff).upd u7 hoff).ext (x70.trans u)).rd.word k (by omega)
          obtain ⟨p', y', hp', hy', hc'⟩ := this
          rw [hp2] at hp'; injection hp' with hp'; subst hp'
          rw [List.getElem?_map, List.getElem?_range (by omega)] at hy'
          injection hy' with hy'; subst hy'
          rw [Nat.mul_one] at hc'
          rw [Int.toNat_natCast]; exact hc'
        obtain ⟨A11, e11, L11⟩ := L7.set ok0 ht (by omega) hnm
        refine (SetCell_spec (a7.ext x70) (r := toR ts A0.use.e i) (by unfold toR; omega) (i := (a : Int)) (by omega) (x := toR ts A0.use.e k) (by unfold toR; omega)).mono ?_
        rintro e w11 ⟨rfl, a11, u11⟩
        have e11' : setO A7 (toR ts A0.use.e i) (a : Int) (toR ts A0.use.e k) = (A11, 0) := e11
        rw [e11'] at a11 ⊢
        exact ⟨_, rfl, fun hh => absurd rfl hh, fun _ => ⟨⟨a + 1, A11, rfl, by omega, a11, L11, (hb7.ext x70).upd u11 (by omega), u70.trans u11 fun _ _ hn => ⟨hn, fun e => hn (by omega)⟩⟩, by dsimp only; omega⟩⟩
    · have hi' : i = ts.length := by omega
      subst hi'
      exact ⟨r, A3, p, rfl, hp, o2.upd u3 hoff, a3, L3, u2.trans u3 fun _ _ hn => ⟨hn, hn⟩⟩
end Go.Proofs.Ytgbpglfieellpaa.V
