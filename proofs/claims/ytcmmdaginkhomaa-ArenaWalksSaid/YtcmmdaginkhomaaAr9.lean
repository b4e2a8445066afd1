/-
  Make.
-/
import Derived.Test.YtcmmdaginkhomaaAr8
namespace Go.Proofs.Ytcmmdaginkhomaa.V
open Go Go.RowKit
set_option linter.unusedVariables false
set_option linter.unusedSimpArgs false
set_option maxRecDepth 100000

theorem Upd.still' {a b c : World} {R : Nat → Prop} (h : Upd R a b) (k : Ext b c) : Upd R a c := h.trans k fun _ _ hn => ⟨hn, not_false⟩
theorem Upd.one' {a b c : World} {R : Nat → Prop} {g : Nat} (h : Upd R a b) (k : Upd (fun i => i = g) b c) (hg : R g) : Upd R a c := h.trans k fun i _ hn => ⟨hn, fun e => hn (e ▸ hg)⟩
theorem lay_steps {l cs : List Nat} {a P N : Nat} (h : a + cs.length + 2 ≤ l.length) :
    ((l.set a P).take (a + 1) ++ (cs ++ (l.set a P).drop (a + 1 + cs.length))).set (a + cs.length + 1) N = layL l a (P :: (cs ++ [N])) := by
  apply List.ext_getElem?
  intro j
  have hl : (P :: (cs ++ [N])).length = cs.length + 2 := by simp
  rw [layL_get (by rw [hl]; omega), hl, List.getElem?_set]
  have ht : ((l.set a P).take (a + 1)).length = a + 1 := by rw [List.length_take, List.length_set]; omega
  by_cases h1 : a + cs.length + 1 = j
  · subst h1
    rw [if_pos rfl, if_pos (show a + cs.length + 1 < (List.take (a + 1) (l.set a P) ++ (cs ++ List.drop (a + 1 + cs.length) (l.set a P))).length by simp only [List.length_append, ht, List.length_drop, List.length_set]; omega), if_neg (show ¬ a + cs.length + 1 < a by omega), if_pos (show a + cs.length + 1 < a + (cs.length + 2) by omega)]
    rw [show a + cs.length + 1 - a = cs.length + 1 by omega, List.getElem?_cons_succ, List.getElem?_append_right (Nat.le_refl _)]
    simp
  · rw [if_neg h1]
    by_cases h2 : j < a + 1
    · rw [List.getElem?_append_left (by omega), List.getElem?_take, if_pos h2, List.getElem?_set]
      by_cases h3 : a = j
      · subst h3
        rw [if_pos rfl, if_pos (by omega), if_neg (by omega), if_pos (by omega), Nat.sub_self]; rfl
      · rw [if_neg h3, if_pos (by omega)]
    · rw [List.getElem?_append_right (by omega), ht, if_neg (by omega)]
      by_cases h3 : j < a + cs.length + 1
      · rw [List.getElem?_append_left (by omega), if_pos (by omega), show j - a = j - (a + 1) + 1 by omega, List.getElem?_cons_succ, List.getElem?_append_left (by omega)]
      · rw [List.getElem?_append_right (by omega), if_neg (by omega), List.getElem?_drop, show a + 1 + cs.length + (j - (a + 1) - cs.length) = j by omega, List.getElem?_set_ne (by omega)]
theorem make_spec {w : World} {b g : Nat} {A : Ar} (h : ArW 92 w b g A) (hd : Hd) {s : Sl} {cs : List Nat} (hs : Rd w 1 s (uv cs)) (hoff : s.off fun k => k = b ∨ k = g) (hm : cs.length ≤ 1000000000000000) (hc : ∀ x ∈ cs, x < 18446744073709551616) :
    Calls Try.prog 37 #[.pointer (some ⟨g, 0, none⟩), hdV hd, .slice s.a s.n s.c] w fun e w' => e = .returned (.tuple #[.int .u64 ((makeT A hd cs).2.1 : Nat), .int .i64 (makeT A hd cs).2.2]) ∧ ArW 92 w' b g (makeT A hd cs).1 ∧ Upd (fun k => k = b ∨ k = g) w w' := by
  refine vc_37 _ _ _ _ _ _ _ _ ?_
  have hi := h.ok.useIn; have h1 := h.ok.use1
  have hn := h.ok.n; have hlen := h.ok.len
  have hne : g ≠ b := h.hd.ne h.ws (by decide)
  have hsn := hs.lenu
  have hok := makeT_ok h.ok (hd := hd) hc
  have hb0 := h.ws.lt; have hg0 := h.hd.lt
  simp only [eq_self, false_or, or_false, true_and, and_true, decide_eq_true_eq, decide_eq_false_iff_not, gd_st, gd_sf, exists_eq_left', exists_eq_left, Option.some.injEq, Sl.eta, Nat.reduceLeDiff, Int.reduceLE, Int.reduceLT, Int.reduceEq, Int.reduceNe, Nat.reduceMul, Nat.reduceAdd, Nat.reduceSub, Int.toNat_natCast, beq_iff_eq, bne_iff_ne, beq_eq_false_iff_ne, bne_eq_false_iff_eq, pick_and, pick_or, Bool.and_eq_true, Bool.or_eq_true, Bool.and_eq_false_iff, Bool.or_eq_false_iff, ne_eq, not_false_eq_true, Bool.not_eq_true', Bool.not_eq_false', reduceCtorEq, Nat.le_refl, Nat.zero_mul, Nat.mul_one, Nat.zero_add, Int.reduceToNat, ones, one, add_mk, Decidable.not_not, cond_true, cond_false, true_implies, false_implies, implies_true, Bool.not_true, Bool.not_false]
  intro w1 n1
  have k1 := Blk.new n1
  simp only [k1.cell, List.getElem?_cons_zero, List.getElem?_cons_succ, ex_sl, Value.int.injEq, Value.bool.injEq, Value.pointer.injEq, Value.string.injEq, eq_self, false_or, or_false, true_and, and_true, decide_eq_true_eq, decide_eq_false_iff_not, gd_st, gd_sf, exists_eq_left', exists_eq_left, Option.some.injEq, Sl.eta, Nat.reduceLeDiff, Int.reduceLE, Int.reduceLT, Int.reduceEq, Int.reduceNe, Nat.reduceMul, Nat.reduceAdd, Nat.reduceSub, Int.toNat_natCast, beq_iff_eq, bne_iff_ne, beq_eq_false_iff_ne, bne_eq_false_iff_eq, pick_and, pick_or, Bool.and_eq_true, Bool.or_eq_true, Bool.and_eq_false_iff, Bool.or_eq_false_iff, ne_eq, not_false_eq_true, Bool.not_eq_true', Bool.not_eq_false', reduceCtorEq, Nat.le_refl, Nat.zero_mul, Nat.mul_one, Nat.zero_add, Int.reduceToNat, ones, one, add_mk, Decidable.not_not, cond_true, cond_false, true_implies, false_implies, implies_true, Bool.not_true, Bool.not_false]
  refine ⟨_, _, _, _, rfl, ⟨rfl, rfl, rfl, rfl⟩, ⟨(pack_spec hd w1).mono ?_⟩⟩
  rintro e w2 ⟨rfl, x2⟩
  have x02 := n1.ext.trans x2
  have a2 := h.ext x02
  have k2 := k1.ext x2
  have bad : ∀ w', Ext w w' → (mayT hd = true ∧ (cs.length : Int) = hd.l ∧ A.opn = false → False) → Ending.returned (.tuple #[.int .u64 0, .int .i64 1]) = .returned (.tuple #[.int .u64 ((makeT A hd cs).2.1 : Nat), .int .i64 (makeT A hd cs).2.2]) ∧ ArW 92 w' b g (makeT A hd cs).1 ∧ Upd (fun k => k = b ∨ k = g) w w' := by
    intro w' x' hno
    unfold makeT
    rw [if_neg hno]
    exact ⟨rfl, h.ext x', x'.toS⟩
  by_cases hm' : mayT hd = true
  rotate_left
  · have e2 : (packO hd).2 = false := by unfold packO; rw [if_neg hm']
    rw [e2]
    exact ⟨_, _, rfl, fun h => (by cases h), fun _ => bad w2 x02 fun hh => hm' hh.1⟩
  have e2 : packO hd = (packT hd, true) := by unfold packO; rw [if_pos hm']
  have m : MayT hd := of_decide_eq_true hm'
  have ml := m.le
  have m0 : 0 ≤ hd.l := m.2.2.1
  have hp := pack_lt m
  rw [e2]
  dsimp only
  refine ⟨_, _, rfl, fun _ => ⟨hd.l, k2.cell 2, fun hcl => ⟨A.opn, a2.hd.cell 6, fun ho => bad w2 x02 fun hh => (by rw [hh.2.2] at ho; cases ho), fun ho => ?_⟩, fun hcl => bad w2 x02 fun hh => hcl (by rw [← hsn]; exact hh.2.1)⟩, fun h => (by cases h)⟩
  intro w3 q3
  have x03 := x02.trans q3.ext
  have a3 := h.ext x03
  have k3 := k2.ext q3.ext
  refine ⟨fun _ => False, hd.l, fun w' u => (k3.ext u).cell 2, ⟨(left_spec a3).mono ?_⟩⟩
  rintro e w4 ⟨rfl, q4⟩
  have x04 := x03.trans q4.ext
  have a4 := h.ext x04
  have k4 := k3.ext q4.ext
  rw [wrap_i64 (n := hd.l + 2) (by omega) (by omega)]
  have hif : mayT hd = true ∧ (cs.length : Int) = hd.l ∧ A.opn = false := ⟨hm', by omega, ho⟩
  unfold makeT at hok ⊢
  rw [if_pos hif] at hok ⊢
  refine ⟨_, rfl, q4.ext, fun hlt => ?_, fun hge => ?_⟩
  · rw [if_pos (by omega)]
    exact ⟨rfl, a4, x04.toS⟩
  have hlt2 : ¬ A.n - (A.use.e - A.use.f) < cs.length + 2 := by omega
  rw [if_neg hlt2] at hok ⊢
  obtain ⟨len, hlen'⟩ : ∃ n : Nat, hd.l = n := ⟨hd.l.toNat, by omega⟩
  have ecs : cs.length = len := by omega
  have sl : Sl := ⟨some ⟨b, 0, none⟩, A.ws.length, A.ws.length⟩
  refine ⟨_, a4.hd.cell 3, ⟨some ⟨b, 0, none⟩, A.ws.length, A.ws.length⟩, a4.hd.cell 1, by omega, by dsimp only; omega, _, rfl, a4.can (by omega), fun w5 s5 => ?_⟩
  rw [Int.toNat_natCast] at s5
  obtain ⟨a5, u5⟩ := a4.put (x := packT hd) (by decide) (by omega) s5
  have k5 := k4.upd u5 (by omega)
  have hs5 : Rd w5 1 s (uv cs) := (hs.ext x04).upd u5 fun p hp e => hoff p hp (.inl e)
  have hl5 : (A.put A.use.e (packT hd)).ws.length = A.ws.length := List.length_set
  rw [wrap_i64 (n := (A.use.e : Int) + 1) (by omega) (by omega), show ((A.use.e : Int) + 1).toNat = A.use.e + 1 by omega]
  refine ⟨⟨some ⟨b, 0, none⟩, A.ws.length, A.ws.length⟩, by rw [← hl5]; exact a5.hd.cell 1, by omega, by dsimp only; omega, ?_⟩
  dsimp only
  rw [if_neg (show ¬ A.ws.length = A.use.e + 1 by omega)]
  simp only [Option.map_some, add_mk, Nat.zero_add]
  obtain ⟨w6, hr6, b6, u6, z6⟩ := run_copy (P := Try.prog) (t1 := 37) (t2 := 37) (ty := 3) (dn := A.ws.length - (A.use.e + 1)) (dc := A.ws.length - (A.use.e + 1)) tab_ok (by rfl) (by rfl) (o := A.use.e + 1) a5.ws (by rw [uv_length, hl5]; omega) hs5 (uv_ones _)
  have emin : min s.n (A.ws.length - (A.use.e + 1)) = cs.length := by omega
  rw [emin] at b6
  have e6 : (uv (A.put A.use.e (packT hd)).ws).take (A.use.e + 1) ++ ((uv cs).take cs.length ++ (uv (A.put A.use.e (packT hd)).ws).drop (A.use.e + 1 + cs.length)) =
      uv ((A.ws.set A.use.e (packT hd)).take (A.use.e + 1) ++ (cs ++ (A.ws.set A.use.e (packT hd)).drop (A.use.e + 1 + cs.length))) := by
    rw [List.take_of_length_le (l := uv cs) (by simp)]
    simp only [uv, Ar.put, List.map_append, List.map_take, List.map_drop]
  rw [e6] at b6
  have hd5 : Blk w5 g 92 [.int .i64 (A.n : Nat), .slice (some ⟨b, 0, none⟩) A.ws.length A.ws.length, .int .i64 (A.use.f : Nat), .int .i64 (A.use.e : Nat), .int .i64 (A.nxt.f : Nat), .int .i64 (A.nxt.e : Nat), .bool A.opn] := by
    rw [← hl5]; exact a5.hd
  have hd6 := hd5.upd u6 hne
  have k6 := k5.upd u6 (by omega)
  refine ⟨_, w6, hr6, fun w7 q7 => ?_⟩
  have hd7 := hd6.ext q7.ext
  have k7 := k6.ext q7.ext
  have b7 := b6.ext q7.ext
  refine ⟨fun _ => False, ⟨some ⟨b, 0, none⟩, A.ws.length, A.ws.length⟩, fun w' u => (hd7.ext u).cell 1, hd.l, fun w' u => (k7.ext u).cell 2, ?_⟩
  rw [hlen', wrap_i64 (n := (A.use.e : Int) + (len : Int)) (by omega) (by omega), wrap_i64 (n := (A.use.e : Int) + (len : Int) + 1) (by omega) (by omega), show ((A.use.e : Int) + (len : Int) + 1).toNat = A.use.e + cs.length + 1 by omega, not_u64 (by omega)]
  have hl6 : ((A.ws.set A.use.e (packT hd)).take (A.use.e + 1) ++ (cs ++ (A.ws.set A.use.e (packT hd)).drop (A.use.e + 1 + cs.length))).length = A.ws.length := by
    simp only [List.length_append, List.length_take, List.length_drop, List.length_set]; omega
  refine ⟨by omega, by dsimp only; omega, _, rfl, ?_, fun w8 s8 => ?_⟩
  · rw [add_mk, Nat.zero_add]
    exact b7.canSet _ (by rw [uv_length, hl6]; omega)
  rw [add_mk, Nat.zero_add] at s8
  have b8 := s8.blk1 b7
  rw [uv_set, lay_steps (by omega)] at b8
  have hd8 := hd7.upd s8.upd hne
  have k8 := k7.upd s8.upd (by dsimp only; omega)
  intro w9 q9
  have hd9 := hd8.ext q9.ext
  have k9 := k8.ext q9.ext
  refine ⟨fun _ => False, _, fun w' u => (hd9.ext u).cell 3, hd.l, fun w' u => (k9.ext u).cell 2, hd9.canSet 3 (by simp), fun w10 s10 => ?_⟩
  rw [hlen', wrap_i64 (n := (len : Int) + 2) (by omega) (by omega), wrap_i64 (n := (A.use.e : Int) + ((len : Int) + 2)) (by omega) (by omega), show (A.use.e : Int) + ((len : Int) + 2) = ((A.use.e + cs.length + 2 : Nat) : Int) by omega] at s10
  have hd10 := s10.blk1 (i := 3) hd9
  have b10 := (b8.ext q9.ext).upd s10.upd (Ne.symm hne)
  have er : IntKind.u64.wrap (IntKind.u64.wrap (A.use.e : Int) + 1) = ((A.use.e + 1 : Nat) : Int) := by
    rw [wrap_u64 (n := (A.use.e : Int)) (by omega) (by omega), wrap_u64 (by omega) (by omega)]; omega
  rw [er]
  have hll : (layL A.ws A.use.e (packT hd :: (cs ++ [18446744073709551615 - packT hd]))).length = A.ws.length := layL_len (by simp; omega)
  refine ⟨rfl, ⟨hok, ?_, b10⟩, ?_⟩
  · dsimp only
    rw [hll]
    exact hd10
  · have U1 : Upd (fun k => k = b ∨ k = g) w w5 := x04.upd (u5.mono fun k _ hn e => hn (.inl e))
    have U2 := (U1.one' u6 (.inl rfl)).still' q7.ext
    have U3 := (U2.one' s8.upd (.inl rfl)).still' q9.ext
    exact U3.one' s10.upd (.inr rfl)
end Go.Proofs.Ytcmmdaginkhomaa.V
