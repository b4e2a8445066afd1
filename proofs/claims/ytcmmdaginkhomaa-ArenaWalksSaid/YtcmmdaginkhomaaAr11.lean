/-
  The document's Make.
-/
import Derived.Test.YtcmmdaginkhomaaAr10
namespace Go.Proofs.Ytcmmdaginkhomaa.V
open Go Go.RowKit
set_option linter.unusedVariables false
set_option linter.unusedSimpArgs false
set_option maxRecDepth 100000

/-- one word more behind words of the call's own -/
theorem app_word {w : World} {W0 g : Nat} {r : Sl} {xs : List Nat} {x : Nat} (o : Own w W0 22 1 r (uv xs)) (hb : Blk w g 22 [.int .u64 (x : Nat)]) (hm : r.n ≤ 1000000) (hB : W0 ≤ w.heap.size) :
    ∃ r' w', Runs Try.prog (Builtin.append_ #[37, 37] 37 #[.slice r.a r.n r.c, .slice (some ⟨g, 0, none⟩) 1 1]) w (.slice r'.a r'.n r'.c) w' ∧ r'.n = r.n + 1 ∧ Own w' W0 22 1 r' (uv (xs ++ [x])) ∧ Upd (fun k => ∃ p, r.a = some p ∧ k = p.block) w w' := by
  have rd : Rd w 1 ⟨some ⟨g, 0, none⟩, 1, 1⟩ (uv [x]) := hb.rd (z := 1) (o := 0) (n := 1) (c := 1) (by simp)
  obtain ⟨r', w', h1, h2, h3, h4, _⟩ := o.append (t := 37) (ty := 37) tab_ok (by rfl) (by rfl) (by decide) rd (uv_ones _) (by dsimp only; omega) (by dsimp only; omega) hB
  exact ⟨r', w', h1, h2, by rw [uv_append]; exact h3, h4⟩
theorem rmake_spec {w : World} {b g : Nat} {A : Ar} (h : ArW 76 w b g A) (hd : Hd) {s : Sl} {cs : List Nat} (hs : Rd w 1 s (uv cs)) (hm : cs.length ≤ 1000000000000000) (hc : ∀ x ∈ cs, x < 18446744073709551616) :
    Calls Try.prog 56 #[.pointer (some ⟨g, 0, none⟩), hdV hd, .slice s.a s.n s.c] w fun e w' => e = .returned (.tuple #[.int .u64 ((makeT A hd cs).2.1 : Nat), .int .i64 (makeT A hd cs).2.2]) ∧ ArW 76 w' b g (makeT A hd cs).1 ∧ Upd (fun k => k = b ∨ k = g) w w' := by
  refine vc_56 _ _ _ _ _ _ _ _ ?_
  have hi := h.ok.useIn; have h1 := h.ok.use1
  have hn := h.ok.n; have hlen := h.ok.len
  have hne : g ≠ b := h.hd.ne h.ws (by decide)
  have hsn := hs.lenu
  have hok := makeT_ok h.ok (hd := hd) hc
  have hb0 := h.ws.lt; have hg0 := h.hd.lt
  simp only [eq_self, false_or, or_false, true_and, and_true, decide_eq_true_eq, decide_eq_false_iff_not, gd_st, gd_sf, exists_eq_left', exists_eq_left, Option.some.injEq, Sl.eta, Nat.reduceLeDiff, Int.reduceLE, Int.reduceLT, Int.reduceEq, Int.reduceNe, Nat.reduceMul, Nat.reduceAdd, Nat.reduceSub, Int.toNat_natCast, beq_iff_eq, bne_iff_ne, beq_eq_false_iff_ne, bne_eq_false_iff_eq, pick_and, pick_or, Bool.and_eq_true, Bool.or_eq_true, Bool.and_eq_false_iff, Bool.or_eq_false_iff, ne_eq, not_false_eq_true, Bool.not_eq_true', Bool.not_eq_false', reduceCtorEq, Nat.le_refl, Nat.zero_mul, Nat.mul_one, Nat.zero_add, Int.reduceToNat, ones, one, add_mk, Decidable.not_not, cond_true, cond_false, true_implies, false_implies, implies_true, Bool.not_true, Bool.not_false]
  intro w1 n1
  have k1 := Blk.new n1
  simp only [k1.cell, List.getElem?_cons_zero, List.getElem?_cons_succ, ex_sl, Value.int.injEq, Value.bool.injEq, Value.pointer.injEq, Value.string.injEq, eq_self, false_or, or_false, true_and, and_true, decide_eq_true_eq, decide_eq_false_iff_not, gd_st, gd_sf, exists_eq_left', exists_eq_left, Option.some.injEq, Sl.eta, Nat.reduceLeDiff, Int.reduceLE, Int.reduceLT, Int.reduceEq, Int.reduceNe, Nat.reduceMul, Nat.reduceAdd, Nat.reduceSub, Int.toNat_natCast, beq_iff_eq, bne_iff_ne, beq_eq_false_iff_ne, bne_eq_false_iff_eq, pick_and, pick_or, Bool.and_eq_true, Bool.or_eq_true, Bool.and_eq_false_iff, Bool.or_eq_false_iff, ne_eq, not_false_eq_true, Bool.not_eq_true', Bool.not_eq_false', reduceCtorEq, Nat.le_refl, Nat.zero_mul, Nat.mul_one, Nat.zero_add, Int.reduceToNat, ones, one, add_mk, Decidable.not_not, cond_true, cond_false, true_implies, false_implies, implies_true, Bool.not_true, Bool.not_false]
  refine ⟨_, _, _, _, rfl, ⟨rfl, rfl, rfl, rfl⟩, ⟨(rpack_spec hd w1).mono ?_⟩⟩
  rintro e w2 ⟨rfl, x2⟩
  have x02 := n1.ext.trans x2
  have a2 := h.ext x02
  have k2 := k1.ext x2
  have bad : ∀ w', Ext w w' → (mayT hd = true ∧ (cs.length : Int) = hd.l ∧ A.opn = false → False) → Ending.returned (.tuple #[.int .u64 0, .int .i64 1]) = .returned (.tuple #[.int .u64 ((makeT A hd cs).2.1 : Nat), .int .i64 (makeT A hd cs).2.2]) ∧ ArW 76 w' b g (makeT A hd cs).1 ∧ Upd (fun k => k = b ∨ k = g) w w' := by
    intro w' x' hno
    unfold makeT
    rw [if_neg hno]
    exact ⟨rfl, h.ext x', x'.toS⟩
  by_cases hm' : mayT hd = true
  rotate_left
  · have e2 : (packO hd).2 = false := by unfold packO; rw [if_neg hm']
    rw [e2]
    exact ⟨_, _, rfl, fun h => (by cases h), fun _ => bad w2 x02 fun hh => hm' hh.1⟩
  have e2 : packO hd = (packT hd, true) := by unfold packO; rw [if_pos hm']
  have m : MayT hd := of_decide_eq_true hm'
  have ml := m.le
  have m0 : 0 ≤ hd.l := m.2.2.1
  have hp := pack_lt m
  rw [e2]
  dsimp only
  refine ⟨_, _, rfl, fun _ => ⟨hd.l, k2.cell 2, fun hcl => ⟨A.opn, a2.hd.cell 6, fun ho => bad w2 x02 fun hh => (by rw [hh.2.2] at ho; cases ho), fun ho => ?_⟩, fun hcl => bad w2 x02 fun hh => hcl (by rw [← hsn]; exact hh.2.1)⟩, fun h => (by cases h)⟩
  intro w3 q3
  have x03 := x02.trans q3.ext
  have a3 := h.ext x03
  have k3 := k2.ext q3.ext
  refine ⟨fun _ => False, hd.l, fun w' u => (k3.ext u).cell 2, _, fun w' u => (a3.ext u).hd.cell 0, ⟨(rused_spec a3).mono ?_⟩⟩
  rintro e w4 ⟨rfl, q4⟩
  have x04 := x03.trans q4.ext
  have a4 := h.ext x04
  have k4 := k3.ext q4.ext
  rw [wrap_i64 (n := hd.l + 2) (by omega) (by omega)]
  have hif : mayT hd = true ∧ (cs.length : Int) = hd.l ∧ A.opn = false := ⟨hm', by omega, ho⟩
  unfold makeT at hok ⊢
  rw [if_pos hif] at hok ⊢
  refine ⟨_, rfl, q4.ext, ?_⟩
  rw [wrap_i64 (n := (A.n : Int) - ((A.use.e - A.use.f : Nat) : Int)) (by omega) (by omega)]
  refine ⟨fun hlt => ?_, fun hge => ?_⟩
  · rw [if_pos (by omega)]
    exact ⟨rfl, a4, x04.toS⟩
  have hlt2 : ¬ A.n - (A.use.e - A.use.f) < cs.length + 2 := by omega
  rw [if_neg hlt2] at hok ⊢
  intro w5 n5
  have o5 : Own w5 w4.heap.size 22 1 ⟨some ⟨w4.heap.size, 0, none⟩, 1, 1⟩ (uv [packT hd]) := Own.lit (n := 1) n5 (Nat.le_refl _) rfl (by omega)
  have x05 := x04.trans n5.ext
  obtain ⟨r6, w6, hr6, hn6, o6, u6, _⟩ := o5.append (t := 37) (ty := 37) tab_ok (by rfl) (by rfl) (by decide) (hs.ext x05) (uv_ones _) (by dsimp only; omega) (by dsimp only; omega) n5.ext.size
  dsimp only at hn6
  rw [← uv_append] at o6
  have x46 : Ext w4 w6 := n5.ext.fresh u6 fun k hk => by
    obtain ⟨p, hp, rfl⟩ := hk
    exact (o5.base p hp).1
  have z04 := x04.size
  have z46 := x46.size
  let all := [packT hd] ++ cs ++ [18446744073709551615 - packT hd]
  have hall : all = packT hd :: (cs ++ [18446744073709551615 - packT hd]) := by simp [all]
  have hal : all.length = cs.length + 2 := by rw [hall]; simp
  have hallt : ∀ y ∈ all, y < 18446744073709551616 := by
    intro y hy
    simp only [hall, List.mem_cons, List.mem_append, List.not_mem_nil, or_false] at hy
    rcases hy with rfl | hy | rfl
    · omega
    · exact hc y hy
    · omega
  rw [not_u64 (by omega)]
  refine ⟨r6, w6, hr6, fun a n w' => ∃ q, a = some ⟨q, 0, none⟩ ∧ n = ((A.use.e + 1 : Nat) : Int) ∧ q ≠ b ∧ q ≠ g ∧ Blk w' q 74 [.int .i64 (A.use.f : Nat), .int .i64 (A.use.e + all.length : Nat)] ∧ ArW 76 w' b g (A.lay A.use.e all) ∧ Upd (fun k => k = b) w w', fun w7 q7 => ?_, ?_⟩
  · have x47 := x46.trans q7.ext
    have x07 := x04.trans x47
    have a7 := h.ext x07
    have o7 := o6.ext q7.ext
    have z7 := x47.size
    have inS : ∀ {wa wb : World} {r : Sl}, Upd (fun k => ∃ p, r.a = some p ∧ k = p.block) wa wb → (∀ p, r.a = some p → w4.heap.size ≤ p.block) → Upd (fun k => k = b ∨ w4.heap.size ≤ k) wa wb := fun u hr => u.mono fun k _ hn => by
      rintro ⟨p, hp, rfl⟩
      exact hn (.inr (hr p hp))
    have keepA : ∀ {wa wb : World} {r : Sl}, ArW 76 wa b g A → Upd (fun k => ∃ p, r.a = some p ∧ k = p.block) wa wb → (∀ p, r.a = some p → w4.heap.size ≤ p.block) → ArW 76 wb b g A := fun a u hr =>
      a.upd u (by rintro ⟨p, hp, e⟩; have := hr p hp; omega) (by rintro ⟨p, hp, e⟩; have := hr p hp; omega)
    have th : ∀ {wa wb wc : World}, Upd (fun k => k = b ∨ w4.heap.size ≤ k) wa wb → Upd (fun k => k = b ∨ w4.heap.size ≤ k) wb wc → Upd (fun k => k = b ∨ w4.heap.size ≤ k) wa wc := fun u v => u.trans v fun _ _ hn => ⟨hn, hn⟩
    have fr : ∀ {wa wb : World} {q : Nat}, w4.heap.size ≤ q → Upd (fun k => k = q) wa wb → Upd (fun k => k = b ∨ w4.heap.size ≤ k) wa wb := fun hq u => u.mono fun k _ hn e => hn (.inr (by omega))
    have bS : ∀ {wa wb : World}, Upd (fun k => k = b) wa wb → Upd (fun k => k = b ∨ w4.heap.size ≤ k) wa wb := fun u => u.mono fun k _ hn e => hn (.inl e)
    have finB : ∀ {w'}, Upd (fun k => k = b ∨ w4.heap.size ≤ k) w7 w' → Upd (fun k => k = b) w w' := fun u => (x07.upd u).mono fun k hk hn e => by
      rcases e with e | e
      · exact hn e
      · omega
    have fit : A.use.e + all.length ≤ A.ws.length := by omega
    have b7 := fun p hp => (o7.base p hp).1
    refine ⟨fun k => k = b ∨ w4.heap.size ≤ k, _, _, rfl, fun w' u => ⟨(a7.hd.upd u (by omega)).cell 2, (a7.hd.upd u (by omega)).cell 3⟩, fun w8 n8 => ⟨n8.ext.toS, ?_, fun w9 n9 => ⟨n9.ext.toS, ?_⟩⟩, fun w8 n8 => ⟨n8.ext.toS, fun w9 n9 => ⟨n9.ext.toS, ?_⟩⟩⟩
    all_goals have z8 := n8.ext.size
    all_goals have hw8 := (Blk.new n8).lt
    · -- the guard word, the words, then lay, ahead of the space or behind it
      obtain ⟨r9, w9, h1, h2, o9, u9⟩ := app_word (o7.ext n8.ext) (Blk.new n8) (by omega) (by omega)
      have a9 := keepA (a7.ext n8.ext) u9 b7
      have z9 := u9.size
      have b9 : ∀ p, r9.a = some p → p.block ≠ b := fun p hp => by have := (o9.base p hp).1; omega
      have U9 := th n8.ext.toS (inS u9 b7)
      refine ⟨r9, w9, h1, inS u9 b7, ⟨(lay_spec a9 A.use o9.rd b9 fit hallt).mono ?_⟩, fun w10 n10 => ⟨n10.ext.toS, ⟨(lay_spec (a9.ext n10.ext) A.use (o9.rd.ext n10.ext) b9 fit hallt).mono ?_⟩⟩⟩
      · rintro e w10 ⟨rfl, a10, u10⟩
        have z10 := u10.size
        refine ⟨_, _, _, rfl, bS u10, fun w11 n11 => ⟨n11.ext.toS, rfl, (Blk.new n11).canSetN 0 2 (by simp), fun w12 s12 => ⟨fr (by dsimp only; omega) s12.upd, ?_⟩⟩⟩
        have k12 := s12.blk (i := 0) (Blk.new n11)
        simp only [setsL, List.set] at k12
        exact ⟨_, rfl, rfl, by omega, by omega, k12, (a10.ext n11.ext).upd s12.upd (by dsimp only; omega) (by dsimp only; omega), finB (th (th (th U9 (bS u10)) n11.ext.toS) (fr (by dsimp only; omega) s12.upd))⟩
      · rintro e w11 ⟨rfl, a11, u11⟩
        have k11 := (Blk.new n10).upd u11 (by omega)
        refine ⟨_, _, _, rfl, bS u11, rfl, k11.canSetN 0 2 (by simp), fun w12 s12 => ⟨fr (by dsimp only; omega) s12.upd, ?_⟩⟩
        have k12 := s12.blk (i := 0) k11
        simp only [setsL, List.set] at k12
        exact ⟨_, rfl, rfl, by omega, by omega, k12, a11.upd s12.upd (by dsimp only; omega) (by dsimp only; omega), finB (th (th (th U9 n10.ext.toS) (bS u11)) (fr (by dsimp only; omega) s12.upd))⟩
    · -- the guard word, the space, the words, lay
      have z9 := n9.ext.size
      obtain ⟨r10, w10, h1, h2, o10, u10⟩ := app_word ((o7.ext n8.ext).ext n9.ext) ((Blk.new n8).ext n9.ext) (by omega) (by omega)
      have a10 := keepA ((a7.ext n8.ext).ext n9.ext) u10 b7
      have z10 := u10.size
      have b10 : ∀ p, r10.a = some p → p.block ≠ b := fun p hp => by have := (o10.base p hp).1; omega
      have k10 := (Blk.new n9).upd u10 (by
        rintro ⟨p, hp, he⟩
        exact own_blk_ne ((o7.ext n8.ext).ext n9.ext) (Blk.new n9) (by decide) p hp he.symm)
      refine ⟨r10, w10, h1, inS u10 b7, ⟨(lay_spec a10 A.use o10.rd b10 fit hallt).mono ?_⟩⟩
      rintro e w11 ⟨rfl, a11, u11⟩
      have k11 := k10.upd u11 (by omega)
      refine ⟨_, _, _, rfl, bS u11, rfl, k11.canSetN 0 2 (by simp), fun w12 s12 => ⟨fr (by dsimp only; omega) s12.upd, ?_⟩⟩
      have k12 := s12.blk (i := 0) k11
      simp only [setsL, List.set] at k12
      exact ⟨_, rfl, rfl, by omega, by omega, k12, a11.upd s12.upd (by dsimp only; omega) (by dsimp only; omega), finB (th (th (th n8.ext.toS n9.ext.toS) (inS u10 b7)) (th (bS u11) (fr (by dsimp only; omega) s12.upd)))⟩
    · -- the space, the guard word, the words, lay
      have z9 := n9.ext.size
      obtain ⟨r10, w10, h1, h2, o10, u10⟩ := app_word ((o7.ext n8.ext).ext n9.ext) (Blk.new n9) (by omega) (by omega)
      have a10 := keepA ((a7.ext n8.ext).ext n9.ext) u10 b7
      have z10 := u10.size
      have b10 : ∀ p, r10.a = some p → p.block ≠ b := fun p hp => by have := (o10.base p hp).1; omega
      have k10 := ((Blk.new n8).ext n9.ext).upd u10 (by
        rintro ⟨p, hp, he⟩
        exact own_blk_ne ((o7.ext n8.ext).ext n9.ext) ((Blk.new n8).ext n9.ext) (by decide) p hp he.symm)
      refine ⟨r10, w10, h1, inS u10 b7, ⟨(lay_spec a10 A.use o10.rd b10 fit hallt).mono ?_⟩⟩
      rintro e w11 ⟨rfl, a11, u11⟩
      have k11 := k10.upd u11 (by omega)
      refine ⟨_, _, _, rfl, bS u11, rfl, k11.canSetN 0 2 (by simp), fun w12 s12 => ⟨fr (by dsimp only; omega) s12.upd, ?_⟩⟩
      have k12 := s12.blk (i := 0) k11
      simp only [setsL, List.set] at k12
      exact ⟨_, rfl, rfl, by omega, by omega, k12, a11.upd s12.upd (by dsimp only; omega) (by dsimp only; omega), finB (th (th (th n8.ext.toS n9.ext.toS) (inS u10 b7)) (th (bS u11) (fr (by dsimp only; omega) s12.upd)))⟩
  · rintro _ a n w7 ⟨q, rfl, rfl, hqb, hqg, kq, aq, uq⟩
    refine ⟨_, rfl, _, _, rfl, ⟨kq.cell 0, kq.cell 1⟩, rfl, aq.hd.canSetN 2 2 (by simp), fun w8 s8 => ?_⟩
    have k8 := s8.blk (i := 2) aq.hd
    simp only [setsL, List.set] at k8
    have w8b := aq.ws.upd s8.upd (Ne.symm hne)
    have e1 : (A.lay A.use.e all).ws = layL A.ws A.use.e (packT hd :: (cs ++ [18446744073709551615 - packT hd])) := by rw [← hall]; rfl
    refine ⟨rfl, ⟨hok, ?_, ?_⟩, ?_⟩
    · dsimp only
      rw [hal, show A.use.e + (cs.length + 2) = A.use.e + cs.length + 2 by omega, e1] at k8
      exact k8
    · dsimp only
      rw [e1] at w8b
      exact w8b
    · exact (uq.mono fun k _ hn e => hn (.inl e)).one' s8.upd (.inr rfl)
end Go.Proofs.Ytcmmdaginkhomaa.V
