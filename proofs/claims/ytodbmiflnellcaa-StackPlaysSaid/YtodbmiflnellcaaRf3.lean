/-
  The document's stack: the calls that turn it.
-/
import Derived.Test.YtodbmiflnellcaaRf2
namespace Go.Proofs.Ytodbmiflnellcaa.V
open Go Go.RowKit
set_option linter.unusedVariables false
set_option linter.unusedSimpArgs false

section
variable {w w' w1 : World} {g words : Nat} {fs : Sl} {Q A C : List Tr} {t t' : Tr} {S G : Nat → Prop} {L : List Fr}
theorem rleave_spec (h : Ref w g G words L) : Calls Try.prog 36 #[.pointer (some ⟨g, 0, none⟩)] w fun e w' =>
    e = .returned (.int .i64 (leaveL L).1) ∧ Left w w' g G words (leaveL L).2 := by
  have h0 := h
  obtain ⟨fs, Q, h, rfl⟩ := h
  refine vc_36 _ _ _ ?_
  have hb := h.at_.hd
  have hl := h.at_.len
  have hsm := h.at_.small
  simp only [eq_self, true_and, and_true, decide_eq_true_eq, decide_eq_false_iff_not, gd_st, gd_sf, exists_eq_left', exists_eq_left, Option.some.injEq, Sl.eta, Nat.reduceLeDiff, Int.reduceLE, Int.reduceLT, Int.reduceEq, Int.reduceNe, Nat.reduceMul, Nat.reduceAdd, Nat.reduceSub, Int.toNat_natCast, beq_iff_eq, bne_iff_ne, beq_eq_false_iff_ne, bne_eq_false_iff_eq, pick_and, pick_or, Bool.and_eq_true, Bool.or_eq_true, Bool.and_eq_false_iff, Bool.or_eq_false_iff, ne_eq, not_false_eq_true, Bool.not_eq_true', Bool.not_eq_false', reduceCtorEq, Nat.le_refl, Nat.zero_mul, Nat.mul_one, Nat.zero_add, Int.reduceToNat, ones, one, add_mk, Decidable.not_not, cond_true, cond_false, true_implies, false_implies, implies_true, Bool.not_true, Bool.not_false]
  simp only [hb.cell, List.getElem?_cons_zero, List.getElem?_cons_succ, ex_sl, Value.int.injEq, Value.bool.injEq, Value.pointer.injEq, Value.string.injEq, eq_self, true_and, and_true, decide_eq_true_eq, decide_eq_false_iff_not, gd_st, gd_sf, exists_eq_left', exists_eq_left, Option.some.injEq, Sl.eta, Nat.reduceLeDiff, Int.reduceLE, Int.reduceLT, Int.reduceEq, Int.reduceNe, Nat.reduceMul, Nat.reduceAdd, Nat.reduceSub, Int.toNat_natCast, beq_iff_eq, bne_iff_ne, beq_eq_false_iff_ne, bne_eq_false_iff_eq, pick_and, pick_or, Bool.and_eq_true, Bool.or_eq_true, Bool.and_eq_false_iff, Bool.or_eq_false_iff, ne_eq, not_false_eq_true, Bool.not_eq_true', Bool.not_eq_false', reduceCtorEq, Nat.le_refl, Nat.zero_mul, Nat.mul_one, Nat.zero_add, Int.reduceToNat, ones, one, add_mk, Decidable.not_not, cond_true, cond_false, true_implies, false_implies, implies_true, Bool.not_true, Bool.not_false]
  refine ⟨fun hn => ?_, fun hn w1 q1 => ⟨fun _ => False, fs, fun w2 u => ?_, fs, fun w2 u => ?_, ?_⟩⟩
  · rw [leaveL, if_pos (by rw [List.length_map]; omega)]
    exact ⟨rfl, h0.stay (Ext.refl _)⟩
  · exact ((hb.ext q1.ext).ext u).cell 1
  · exact ((hb.ext q1.ext).ext u).cell 1
  rcases qtop Q with rfl | ⟨A, t, rfl⟩
  · exact absurd (by rw [hl]; rfl) hn
  have hb1 := hb.ext q1.ext
  have h1 := (h.ext q1.ext).at_
  have hcap := h1.row.cap
  rw [List.length_append, List.length_singleton] at hl hsm
  rw [wrap_i64 (by omega) (by omega), cut0]
  rw [leaveL, if_neg (by simp), List.map_append, List.map_cons, List.map_nil, List.dropLast_concat]
  refine ⟨by omega, by omega, hb1.canSet 1 (by simp), fun w2 hs => ⟨rfl, ?_⟩⟩
  have hb2 := hs.blk1 hb1
  simp only [List.set_cons_succ, List.set_cons_zero] at hb2
  have u : Upd (fun k => k = g) w1 w2 := hs.upd
  have hne : fs.off (fun k => k = g) := fun p hp he => own_blk_ne h1.row h1.hd (by decide) p hp he
  have hon : ∀ s ∈ sls (A ++ [t]), s.off (fun k => k = g) := fun s hs p hp he => by
    obtain ⟨xs, hx⟩ := h1.any hs
    exact own_blk_ne hx h1.hd (by decide) p hp he
  have row := (h1.row.upd u hne).short (m := A.length) (by omega)
  rw [rflat_append, List.take_append_of_le_length (by rw [rflat_len]; omega), List.take_of_length_le (by rw [rflat_len]; omega)] at row
  rw [show ((fs.n : Int) - 1).toNat = A.length by omega] at hb2
  have hfit := h1.fit
  rw [List.map_append, used_append] at hfit
  have hap := h1.ap
  rw [sls_append, List.pairwise_append] at hap
  have r2 : RAt w2 g words ⟨fs.a, A.length, fs.c⟩ A := ⟨hb2, row, fun x hx => (h1.ls x (by simp [hx])).upd u (hon _ (RAt.sub1 (sls_mem hx).1)), fun x hx => (h1.ops x (by simp [hx])).upd u (hon _ (RAt.sub1 (sls_mem hx).2)), fun x hx => h1.ok x (by simp [hx]), hap.1, by omega, h1.big⟩
  refine h.left (q1.ext.upd (u.mono fun k _ hk e => hk (e ▸ h.g1))) r2 (fun p hp => .inl (h.g2 p hp)) (fun s hs p hp => .inl (h.g3 s (RAt.sub1 hs) p hp)) rfl
theorem rgoto_spec (a : Int) (h : Ref w g G words L) : Calls Try.prog 44 #[.pointer (some ⟨g, 0, none⟩), .int .i64 a] w fun e w' =>
    e = .returned (.int .i64 (onTop L 20 (gotoF a)).1) ∧ Left w w' g G words (onTop L 20 (gotoF a)).2 := by
  have h0 := h
  obtain ⟨fs, Q, h, rfl⟩ := h
  refine vc_44 _ _ _ _ ?_
  simp only [eq_self, true_and, and_true, decide_eq_true_eq, decide_eq_false_iff_not, gd_st, gd_sf, exists_eq_left', exists_eq_left, Option.some.injEq, Sl.eta, Nat.reduceLeDiff, Int.reduceLE, Int.reduceLT, Int.reduceEq, Int.reduceNe, Nat.reduceMul, Nat.reduceAdd, Nat.reduceSub, Int.toNat_natCast, beq_iff_eq, bne_iff_ne, beq_eq_false_iff_ne, bne_eq_false_iff_eq, pick_and, pick_or, Bool.and_eq_true, Bool.or_eq_true, Bool.and_eq_false_iff, Bool.or_eq_false_iff, ne_eq, not_false_eq_true, Bool.not_eq_true', Bool.not_eq_false', reduceCtorEq, Nat.le_refl, Nat.zero_mul, Nat.mul_one, Nat.zero_add, Int.reduceToNat, ones, one, add_mk, Decidable.not_not, cond_true, cond_false, true_implies, false_implies, implies_true, Bool.not_true, Bool.not_false]
  rcases qtop Q with rfl | ⟨A, t, rfl⟩
  · refine ⟨(rtop_out h.at_).mono ?_⟩
    rintro e w1 ⟨rfl, q⟩
    refine ⟨_, rfl, fun _ => ⟨rfl, h0.stay q.ext⟩, fun h => by cases h⟩
  · obtain ⟨r, hr, _⟩ := h.at_.base
    refine ⟨(rtop_in h.at_ hr).mono ?_⟩
    rintro e w1 ⟨rfl, q⟩
    have h1 := (h.ext q.ext).at_
    have hl := h1.len
    rw [List.length_append, List.length_singleton] at hl
    refine ⟨_, rfl, fun h => (by cases h), fun _ => ⟨fun c1 => ⟨fun c2 => ?_, fun c2 => ⟨_, rfl, ?_, fun w2 hs => ?_⟩⟩, fun c1 => ?_⟩⟩
    · refine ⟨?_, ?_⟩
      · rw [List.map_append, List.map_cons, List.map_nil, onTop_snoc, gotoF, if_pos (by omega)]
      · have := h0.stay q.ext
        rw [List.map_append, List.map_cons, List.map_nil] at this ⊢
        rw [onTop_snoc, gotoF, if_pos (by omega)]; exact this
    · have := h1.row.canAt hr (i := A.length * 5 + 1) (by omega)
      rw [add_mk, Nat.zero_add] at this
      rw [add_mk]; exact this
    · obtain ⟨n, rfl⟩ : ∃ n : Nat, a = n := ⟨a.toNat, by omega⟩
      rw [add_mk] at hs
      have hok := h1.ok t (by simp)
      have hF := h1.setF (C := []) (t' := ({ t.1 with at_ := n }, t.2)) (S := fun _ => False) (Ext.refl _) not_false (fun _ _ => not_false) (fun _ _ _ _ => not_false) (fun _ _ _ _ => not_false) hr hs (by decide) rfl
        (h1.ls t (by simp)) (h1.ops t (by simp)) ⟨hok.fn, by simp only; omega, hok.ls, hok.hi, hok.ops⟩ (by have := h1.ap; simpa [sls_append, sls] using this) rfl
      rw [List.map_append, List.map_cons, List.map_nil, onTop_snoc, gotoF, if_neg (by omega), Int.toNat_natCast]
      refine ⟨rfl, h.left (q.ext.upd (hF.2.mono fun k _ hk e => hk ?_)) hF.1 (fun p hp => .inl (h.g2 p hp)) (fun s hs p hp => .inl (h.g3 s (by simpa [sls_append, sls] using hs) p hp)) (by simp)⟩
      rcases e with e | e
      · exact e.elim
      · rw [e]; exact h.g2 _ hr
    · refine ⟨?_, ?_⟩
      · rw [List.map_append, List.map_cons, List.map_nil, onTop_snoc, gotoF, if_pos (by omega)]
      · have := h0.stay q.ext
        rw [List.map_append, List.map_cons, List.map_nil] at this ⊢
        rw [onTop_snoc, gotoF, if_pos (by omega)]; exact this
/-- a word of a frame's own row is set -/
theorem RAt.setLs (h : RAt w g words fs (A ++ t :: C)) {p : Addr} (hp : t.2.1.a = some p) {i x : Nat} (hi : i < t.1.ls.length) (hs : SetW w (p.add i) [.int .u64 (x : Nat)] w1) :
    RAt w1 g words fs (A ++ ({ t.1 with ls := t.1.ls.set i x }, t.2) :: C) ∧ Upd (fun k => k = p.block) w w1 := by
  have ho := h.ls t (by simp)
  have hln := ho.rd.lenu
  obtain ⟨o, u⟩ := ho.setAt hp (by omega) hs
  rw [uv_set] at o
  have hok := h.ok t (by simp)
  have hap := h.ap
  have hap' := hap
  rw [sls_append, sls, List.pairwise_append] at hap'
  obtain ⟨_, hap2, hap3⟩ := hap'
  rw [List.pairwise_cons, List.pairwise_cons] at hap2
  refine ⟨h.turn (t' := ({ t.1 with ls := t.1.ls.set i x }, t.2)) u (fun e => own_blk_ne ho h.hd (by decide) p hp e.symm) (fun q hq e => own_ne h.row ho (by decide) q p hq hp e)
    (fun s hs q hq e => hap3 s hs t.2.1 (by simp) q p hq hp e) (fun s hs q hq e => hap2.1 s (by simp [hs]) p q hp hq e.symm) rfl o
    ((h.ops t (by simp)).upd u fun q hq e => hap2.1 t.2.2 (by simp) p q hp hq e.symm) ⟨hok.fn, hok.at_, by simpa using hok.ls, hok.hi, hok.ops⟩ (by simpa [sls_append, sls] using hap) (by simp [Fr.size]), u⟩
theorem RAt.setOps (h : RAt w g words fs (A ++ t :: C)) {p : Addr} (hp : t.2.2.a = some p) {i x : Nat} (hi : i < t.1.ops.length) (hs : SetW w (p.add i) [.int .u64 (x : Nat)] w1) :
    RAt w1 g words fs (A ++ ({ t.1 with ops := t.1.ops.set i x }, t.2) :: C) ∧ Upd (fun k => k = p.block) w w1 := by
  have ho := h.ops t (by simp)
  have hln := ho.rd.lenu
  obtain ⟨o, u⟩ := ho.setAt hp (by omega) hs
  rw [uv_set] at o
  have hok := h.ok t (by simp)
  have hap := h.ap
  have hap' := hap
  rw [sls_append, sls, List.pairwise_append] at hap'
  obtain ⟨_, hap2, hap3⟩ := hap'
  rw [List.pairwise_cons, List.pairwise_cons] at hap2
  refine ⟨h.turn (t' := ({ t.1 with ops := t.1.ops.set i x }, t.2)) u (fun e => own_blk_ne ho h.hd (by decide) p hp e.symm) (fun q hq e => own_ne h.row ho (by decide) q p hq hp e)
    (fun s hs q hq e => hap3 s hs t.2.2 (by simp) q p hq hp e) (fun s hs q hq e => hap2.2.1 s hs p q hp hq e.symm) rfl
    ((h.ls t (by simp)).upd u fun q hq e => hap2.1 t.2.2 (by simp) q p hq hp e) o ⟨hok.fn, hok.at_, hok.ls, hok.hi, by simpa using hok.ops⟩ (by simpa [sls_append, sls] using hap) rfl, u⟩
theorem rset_spec (i : Int) (x : Nat) (h : Ref w g G words L) : Calls Try.prog 46 #[.pointer (some ⟨g, 0, none⟩), .int .i64 i, .int .u64 (x : Nat)] w fun e w' =>
    e = .returned (.int .i64 (onTop L 20 (setF i x)).1) ∧ Left w w' g G words (onTop L 20 (setF i x)).2 := by
  have h0 := h
  obtain ⟨fs, Q, h, rfl⟩ := h
  refine vc_46 _ _ _ _ _ ?_
  simp only [eq_self, true_and, and_true, decide_eq_true_eq, decide_eq_false_iff_not, gd_st, gd_sf, exists_eq_left', exists_eq_left, Option.some.injEq, Sl.eta, Nat.reduceLeDiff, Int.reduceLE, Int.reduceLT, Int.reduceEq, Int.reduceNe, Nat.reduceMul, Nat.reduceAdd, Nat.reduceSub, Int.toNat_natCast, beq_iff_eq, bne_iff_ne, beq_eq_false_iff_ne, bne_eq_false_iff_eq, pick_and, pick_or, Bool.and_eq_true, Bool.or_eq_true, Bool.and_eq_false_iff, Bool.or_eq_false_iff, ne_eq, not_false_eq_true, Bool.not_eq_true', Bool.not_eq_false', reduceCtorEq, Nat.le_refl, Nat.zero_mul, Nat.mul_one, Nat.zero_add, Int.reduceToNat, ones, one, add_mk, Decidable.not_not, cond_true, cond_false, true_implies, false_implies, implies_true, Bool.not_true, Bool.not_false]
  rcases qtop Q with rfl | ⟨A, t, rfl⟩
  · refine ⟨(rtop_out h.at_).mono ?_⟩
    rintro e w1 ⟨rfl, q⟩
    refine ⟨_, rfl, fun h => (by cases h), fun _ => ⟨rfl, h0.stay q.ext⟩⟩
  · obtain ⟨r, hr, _⟩ := h.at_.base
    refine ⟨(rtop_in h.at_ hr).mono ?_⟩
    rintro e w1 ⟨rfl, q⟩
    have h1 := (h.ext q.ext).at_
    obtain ⟨r', hr', hc⟩ := h1.base
    rw [hr] at hr'; injection hr' with hr'; injection hr' with hr'; subst hr'
    have ho := h1.ls t (by simp)
    have hln := ho.rd.lenu
    have c2 : w1.cell? (Addr.add ⟨r, A.length * 5, none⟩ 2) = some (.slice t.2.1.a t.2.1.n t.2.1.c) := by rw [add_mk]; exact hc 2 _ rfl
    have st := h0.stay q.ext
    rw [List.map_append, List.map_cons, List.map_nil] at st ⊢
    rw [onTop_snoc]
    refine ⟨_, rfl, fun _ => ⟨fun h0 => ⟨_, rfl, t.2.1, c2, fun hi => ?_, fun hi => ?_⟩, fun h0 => ?_⟩, fun h => by cases h⟩
    · rw [setF, if_neg (by omega)]; exact ⟨rfl, st⟩
    · obtain ⟨p, y, hp, _, _⟩ := ho.rd.word i.toNat (by omega)
      rw [setF, if_pos (by omega)]
      refine ⟨_, rfl, t.2.1, c2, by omega, by omega, p, hp, ho.canAt hp (by omega), fun w2 hs => ⟨rfl, ?_⟩⟩
      have hF := h1.setLs (C := []) hp (by omega) hs
      exact h.left (q.ext.upd (hF.2.mono fun k _ hk e => hk (e ▸ h.g3 _ (sls_mem (by simp)).1 p hp))) hF.1 (fun p hp => .inl (h.g2 p hp)) (fun s hs p hp => .inl (h.g3 s (by simpa [sls_append, sls] using hs) p hp)) (by simp)
    · rw [setF, if_neg (by omega)]; exact ⟨rfl, st⟩
end
end Go.Proofs.Ytodbmiflnellcaa.V
