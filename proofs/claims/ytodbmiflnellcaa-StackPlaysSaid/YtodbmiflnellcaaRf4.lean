/-
  The document's stack: Push, Pop, Enter, Slot, SetSlot.
-/
import Derived.Test.YtodbmiflnellcaaRf3
namespace Go.Proofs.Ytodbmiflnellcaa.V
open Go Go.RowKit
set_option linter.unusedVariables false
set_option linter.unusedSimpArgs false

section
variable {w w' w1 : World} {g words : Nat} {fs : Sl} {Q A C : List Tr} {t t' : Tr} {S G : Nat → Prop} {L : List Fr}
theorem uv_take (l : List Nat) (n : Nat) : (uv l).take n = uv (l.take n) := by simp [uv]
theorem rpush_spec (x : Nat) (h : Ref w g G words L) : Calls Try.prog 47 #[.pointer (some ⟨g, 0, none⟩), .int .u64 (x : Nat)] w fun e w' =>
    e = .returned (.int .i64 (onTop L 20 (pushF x)).1) ∧ Left w w' g G words (onTop L 20 (pushF x)).2 := by
  have h0 := h
  obtain ⟨fs, Q, h, rfl⟩ := h
  refine vc_47 _ _ _ _ ?_
  simp only [eq_self, true_and, and_true, decide_eq_true_eq, decide_eq_false_iff_not, gd_st, gd_sf, exists_eq_left', exists_eq_left, Option.some.injEq, Sl.eta, Nat.reduceLeDiff, Int.reduceLE, Int.reduceLT, Int.reduceEq, Int.reduceNe, Nat.reduceMul, Nat.reduceAdd, Nat.reduceSub, Int.toNat_natCast, beq_iff_eq, bne_iff_ne, beq_eq_false_iff_ne, bne_eq_false_iff_eq, pick_and, pick_or, Bool.and_eq_true, Bool.or_eq_true, Bool.and_eq_false_iff, Bool.or_eq_false_iff, ne_eq, not_false_eq_true, Bool.not_eq_true', Bool.not_eq_false', reduceCtorEq, Nat.le_refl, Nat.zero_mul, Nat.mul_one, Nat.zero_add, Int.reduceToNat, ones, one, add_mk, Decidable.not_not, cond_true, cond_false, true_implies, false_implies, implies_true, Bool.not_true, Bool.not_false]
  rcases qtop Q with rfl | ⟨A, t, rfl⟩
  · refine ⟨(rtop_out h.at_).mono ?_⟩
    rintro e w1 ⟨rfl, q⟩
    refine ⟨_, rfl, fun _ => ⟨rfl, h0.stay q.ext⟩, fun h => by cases h⟩
  · obtain ⟨r, hr, _⟩ := h.at_.base
    refine ⟨(rtop_in h.at_ hr).mono ?_⟩
    rintro e w1 ⟨rfl, q⟩
    have h1 := (h.ext q.ext).at_
    obtain ⟨r', hr', hc⟩ := h1.base
    rw [hr] at hr'; injection hr' with hr'; injection hr' with hr'; subst hr'
    have hl := h1.len
    rw [List.length_append, List.length_singleton] at hl
    have ho := h1.ops t (by simp)
    have hok := h1.ok t (by simp)
    have a1 := hok.ops
    have a2 := hok.hi
    have hln := ho.rd.lenu
    have c3 : w1.cell? (Addr.add ⟨r, A.length * 5, none⟩ 3) = some (.int .i64 (t.1.hi : Nat)) := by rw [add_mk]; exact hc 3 _ rfl
    have c4 : w1.cell? (Addr.add ⟨r, A.length * 5, none⟩ 4) = some (.slice t.2.2.a t.2.2.n t.2.2.c) := by rw [add_mk]; exact hc 4 _ rfl
    have st := h0.stay q.ext
    rw [List.map_append, List.map_cons, List.map_nil] at st ⊢
    rw [onTop_snoc]
    refine ⟨_, rfl, fun h => (by cases h), fun _ => ⟨_, rfl, t.2.2, c4, _, rfl, _, c3, fun w2 q2 => ⟨fun hh => ?_, fun hh => ?_⟩⟩⟩
    · rw [pushF, if_pos (by omega)]
      have st2 := h0.stay (q.ext.trans q2.ext)
      rw [List.map_append, List.map_cons, List.map_nil] at st2
      exact ⟨rfl, st2⟩
    · rw [pushF, if_neg (by omega)]
      refine ⟨_, rfl, t.2.2, by rw [q2.cell]; exact c4, fun w3 n3 => ?_⟩
      have x13 : Ext w1 w3 := q2.ext.trans n3.ext
      have ho3 := ho.ext x13
      have hx3 : Rd w3 1 ⟨some ⟨w2.heap.size, 0, none⟩, 1, 1⟩ (uv [x]) := (Blk.new n3).rd (by simp)
      obtain ⟨b, w4, hr4, hbn, ho4, hu4, hf4⟩ := ho3.append (t := 47) (ty := 47) tab_ok rfl rfl (by decide) hx3 (uv_ones _) (by simp only; omega) (by simp only; omega) (Nat.zero_le _)
      have h3 := h1.upd (S := fun _ => False) x13 not_false (fun _ _ => not_false) (fun _ _ _ _ => not_false)
      have hg3 : ∀ k, G k → k < w3.heap.size := fun k hk => Nat.lt_of_lt_of_le (h.lt k hk) (q.ext.trans x13).size
      have hap := h3.ap
      have hap' := hap
      rw [sls_append, sls, List.pairwise_append] at hap'
      obtain ⟨_, hap2, hap3⟩ := hap'
      rw [List.pairwise_cons, List.pairwise_cons] at hap2
      have og : ¬ ∃ p, t.2.2.a = some p ∧ g = p.block := fun ⟨p, hp, e⟩ => own_blk_ne ho3 h3.hd (by decide) p hp e.symm
      have ofs : fs.off (fun k => ∃ p, t.2.2.a = some p ∧ k = p.block) := fun q hq ⟨p, hp, e⟩ => own_ne h3.row ho3 (by decide) q p hq hp e
      have oA : ∀ s ∈ sls A, s.off (fun k => ∃ p, t.2.2.a = some p ∧ k = p.block) := fun s hs q hq ⟨p, hp, e⟩ => hap3 s hs t.2.2 (by simp) q p hq hp e
      have oL : t.2.1.off (fun k => ∃ p, t.2.2.a = some p ∧ k = p.block) := fun q hq ⟨p, hp, e⟩ => hap2.1 t.2.2 (by simp) q p hq hp e
      have row4 := h3.row.upd hu4 ofs
      have can := row4.canAt hr (i := A.length * 5 + 4) (by omega)
      rw [add_mk, Nat.zero_add] at can
      refine ⟨b, w4, hr4, _, rfl, by rw [add_mk]; exact can, fun w5 hs => ⟨rfl, ?_⟩⟩
      rw [add_mk] at hs
      have base : ∀ s ∈ sls (A ++ [t]), ∀ p, s.a = some p → p.block < w3.heap.size := fun s hs p hp => hg3 _ (h.g3 s hs p hp)
      have apb : ∀ s ∈ sls (A ++ [t]), Apart s t.2.2 → Apart s b := fun s hs ha p q hp hq => by
        rcases hf4 q hq with h' | h'
        · exact ha p q hp h'
        · have := base s hs p hp; omega
      have hap5 : (sls (A ++ [({ t.1 with ops := t.1.ops ++ [x] }, t.2.1, b)])).Pairwise Apart := by
        rw [sls_append, sls, sls] at hap ⊢
        have e : ∀ c : Sl, sls A ++ t.2.1 :: c :: [] = (sls A ++ [t.2.1]) ++ c :: [] := fun c => by simp
        rw [e] at hap ⊢
        refine pw_set _ _ hap (fun s hs ha => apb s ?_ ha) (fun y hy => by cases hy)
        rw [sls_append, sls]
        rcases List.mem_append.1 hs with hs | hs
        · simp [hs]
        · simp at hs; simp [hs]
      have hF := h3.setF (C := []) (t' := ({ t.1 with ops := t.1.ops ++ [x] }, t.2.1, b)) hu4 og ofs oA (fun _ hs => (by cases hs)) hr hs (by decide) rfl
        ((h3.ls t (by simp)).upd hu4 oL) (by rw [← uv_append] at ho4; exact ho4) ⟨hok.fn, hok.at_, hok.ls, hok.hi, by simp; omega⟩ hap5 rfl
      refine h.left ((q.ext.trans x13).upd (hF.2.mono fun k _ hk e => hk ?_)) hF.1 (fun p hp => .inl (h.g2 p hp)) (fun s hs p hp => ?_) (by simp)
      · rcases e with ⟨p, hp, e⟩ | e
        · rw [e]; exact h.g3 _ (sls_mem (by simp)).2 p hp
        · rw [e]; exact h.g2 _ hr
      · rw [sls_append] at hs
        rcases List.mem_append.1 hs with hs | hs
        · exact .inl (h.g3 s (RAt.sub1 hs) p hp)
        · simp only [sls, List.mem_cons, List.not_mem_nil, or_false] at hs
          rcases hs with rfl | rfl
          · exact .inl (h.g3 _ (sls_mem (t := t) (by simp)).1 p hp)
          · rcases hf4 p hp with h' | h'
            · exact .inl (h.g3 _ (sls_mem (t := t) (by simp)).2 p h')
            · right
              have := (q.ext.trans x13).size
              omega
theorem rpop_spec (h : Ref w g G words L) : Calls Try.prog 48 #[.pointer (some ⟨g, 0, none⟩)] w fun e w' =>
    e = .returned (.tuple #[.int .u64 ((onTop L (0, 20) popF).1.1 : Nat), .int .i64 (onTop L (0, 20) popF).1.2]) ∧ Left w w' g G words (onTop L (0, 20) popF).2 := by
  have h0 := h
  obtain ⟨fs, Q, h, rfl⟩ := h
  refine vc_48 _ _ _ ?_
  simp only [eq_self, true_and, and_true, decide_eq_true_eq, decide_eq_false_iff_not, gd_st, gd_sf, exists_eq_left', exists_eq_left, Option.some.injEq, Sl.eta, Nat.reduceLeDiff, Int.reduceLE, Int.reduceLT, Int.reduceEq, Int.reduceNe, Nat.reduceMul, Nat.reduceAdd, Nat.reduceSub, Int.toNat_natCast, beq_iff_eq, bne_iff_ne, beq_eq_false_iff_ne, bne_eq_false_iff_eq, pick_and, pick_or, Bool.and_eq_true, Bool.or_eq_true, Bool.and_eq_false_iff, Bool.or_eq_false_iff, ne_eq, not_false_eq_true, Bool.not_eq_true', Bool.not_eq_false', reduceCtorEq, Nat.le_refl, Nat.zero_mul, Nat.mul_one, Nat.zero_add, Int.reduceToNat, ones, one, add_mk, Decidable.not_not, cond_true, cond_false, true_implies, false_implies, implies_true, Bool.not_true, Bool.not_false]
  rcases qtop Q with rfl | ⟨A, t, rfl⟩
  · refine ⟨(rtop_out h.at_).mono ?_⟩
    rintro e w1 ⟨rfl, q⟩
    refine ⟨_, rfl, fun _ => ⟨rfl, h0.stay q.ext⟩, fun h => by cases h⟩
  · obtain ⟨r, hr, _⟩ := h.at_.base
    refine ⟨(rtop_in h.at_ hr).mono ?_⟩
    rintro e w1 ⟨rfl, q⟩
    have h1 := (h.ext q.ext).at_
    obtain ⟨r', hr', hc⟩ := h1.base
    rw [hr] at hr'; injection hr' with hr'; injection hr' with hr'; subst hr'
    have hl := h1.len
    rw [List.length_append, List.length_singleton] at hl
    have ho := h1.ops t (by simp)
    have hok := h1.ok t (by simp)
    have a1 := hok.ops
    have a2 := hok.hi
    have hln := ho.rd.lenu
    have c4 : w1.cell? (Addr.add ⟨r, A.length * 5, none⟩ 4) = some (.slice t.2.2.a t.2.2.n t.2.2.c) := by rw [add_mk]; exact hc 4 _ rfl
    have st := h0.stay q.ext
    rw [List.map_append, List.map_cons, List.map_nil] at st ⊢
    rw [onTop_snoc]
    refine ⟨_, rfl, fun h => (by cases h), fun _ => ⟨_, rfl, t.2.2, c4, fun hh => ?_, fun hh => ?_⟩⟩
    · rw [popF, if_pos (by omega)]
      exact ⟨rfl, st⟩
    · obtain ⟨p, y, hp, hy, hcy⟩ := ho.rd.word (t.1.ops.length - 1) (by omega)
      rw [Nat.mul_one] at hcy
      rw [popF, if_neg (by omega)]
      refine ⟨_, rfl, t.2.2, c4, _, rfl, t.2.2, c4, ?_⟩
      rw [wrap_i64 (by omega) (by omega)]
      refine ⟨by omega, by omega, p, hp, y, by rw [show ((t.2.2.n : Int) - 1).toNat = t.1.ops.length - 1 by omega]; exact hcy, fun w2 q2 w3 q3 => ⟨fun _ => False, _, rfl, t.2.2, fun w4 u => ?_, _, rfl, t.2.2, fun w4 u => ?_, ?_⟩⟩
      · exact u.cell (by rw [q3.cell, q2.cell]; exact c4) not_false
      · exact u.cell (by rw [q3.cell, q2.cell]; exact c4) not_false
      have x13 : Ext w1 w3 := q2.ext.trans q3.ext
      have h3 := h1.upd (S := fun _ => False) x13 not_false (fun _ _ => not_false) (fun _ _ _ _ => not_false)
      have ho3 := ho.ext x13
      have hcap := ho3.cap
      rw [wrap_i64 (by omega) (by omega), cut0]
      have can := h3.row.canAt hr (i := A.length * 5 + 4) (by omega)
      rw [add_mk, Nat.zero_add] at can
      refine ⟨by omega, by omega, _, rfl, by rw [add_mk]; exact can, fun w4 hs => ?_⟩
      rw [add_mk, show ((t.2.2.n : Int) - 1).toNat = t.1.ops.length - 1 by omega] at hs
      have hap := h3.ap
      have sh := ho3.short (m := t.1.ops.length - 1) (by omega)
      rw [Nat.mul_one, uv_take, ← List.dropLast_eq_take] at sh
      have hap5 : (sls (A ++ [({ t.1 with ops := t.1.ops.dropLast }, t.2.1, ⟨t.2.2.a, t.1.ops.length - 1, t.2.2.c⟩)])).Pairwise Apart := by
        rw [sls_append, sls, sls] at hap ⊢
        have e : ∀ c : Sl, sls A ++ t.2.1 :: c :: [] = (sls A ++ [t.2.1]) ++ c :: [] := fun c => by simp
        rw [e] at hap ⊢
        exact pw_set _ _ hap (fun s hs ha => ha) (fun y hy => by cases hy)
      have hF := h3.setF (C := []) (t' := ({ t.1 with ops := t.1.ops.dropLast }, t.2.1, ⟨t.2.2.a, t.1.ops.length - 1, t.2.2.c⟩)) (S := fun _ => False) (Ext.refl _) not_false (fun _ _ => not_false) (fun _ _ _ _ => not_false) (fun _ _ _ _ => not_false) hr hs (by decide) rfl
        (h3.ls t (by simp)) sh ⟨hok.fn, hok.at_, hok.ls, hok.hi, by simp; omega⟩ hap5 rfl
      refine ⟨?_, h.left ((q.ext.trans x13).upd (hF.2.mono fun k _ hk e => hk ?_)) hF.1 (fun p hp => .inl (h.g2 p hp)) (fun s hs p hp => .inl ?_) (by simp)⟩
      · simp only [List.getD_eq_getElem?_getD, hy, Option.getD_some]
      · rcases e with e | e
        · exact e.elim
        · rw [e]; exact h.g2 _ hr
      · rw [sls_append] at hs
        rcases List.mem_append.1 hs with hs | hs
        · exact h.g3 s (RAt.sub1 hs) p hp
        · simp only [sls, List.mem_cons, List.not_mem_nil, or_false] at hs
          rcases hs with rfl | rfl
          · exact h.g3 _ (sls_mem (t := t) (by simp)).1 p hp
          · exact h.g3 _ (sls_mem (t := t) (by simp)).2 p hp
theorem rrow_ones (t : Tr) : ∀ v ∈ rrow t, one v := by
  intro v hv
  simp [rrow] at hv
  rcases hv with rfl | rfl | rfl | rfl | rfl <;> trivial
theorem renter_spec (fn lo hi : Int) (h : Ref w g G words L) : Calls Try.prog 35 #[.pointer (some ⟨g, 0, none⟩), .int .i64 fn, .int .i64 lo, .int .i64 hi] w fun e w' =>
    e = .returned (.int .i64 (enterL words L fn lo hi).1) ∧ Left w w' g G words (enterL words L fn lo hi).2 := by
  have h0 := h
  obtain ⟨fs, Q, h, hQL⟩ := h
  refine vc_35 _ _ _ _ _ _ ?_
  have bad : (fn < 0 ∨ 2147483647 < fn ∨ lo < 0 ∨ 32 < lo ∨ hi < 0 ∨ 24 < hi) → ∀ w', Ext w w' → Ending.returned (.int .i64 1) = .returned (.int .i64 (enterL words L fn lo hi).1) ∧ Left w w' g G words (enterL words L fn lo hi).2 := fun hh w' hx => by
    rw [enterL, if_pos hh]; exact ⟨rfl, h0.stay hx⟩
  have hb := h.at_.hd
  have hfit := h.at_.fit
  have hbig := h.at_.big
  rw [hQL] at hfit
  simp only [eq_self, true_and, and_true, decide_eq_true_eq, decide_eq_false_iff_not, gd_st, gd_sf, exists_eq_left', exists_eq_left, Option.some.injEq, Sl.eta, Nat.reduceLeDiff, Int.reduceLE, Int.reduceLT, Int.reduceEq, Int.reduceNe, Nat.reduceMul, Nat.reduceAdd, Nat.reduceSub, Int.toNat_natCast, beq_iff_eq, bne_iff_ne, beq_eq_false_iff_ne, bne_eq_false_iff_eq, pick_and, pick_or, Bool.and_eq_true, Bool.or_eq_true, Bool.and_eq_false_iff, Bool.or_eq_false_iff, ne_eq, not_false_eq_true, Bool.not_eq_true', Bool.not_eq_false', reduceCtorEq, Nat.le_refl, Nat.zero_mul, Nat.mul_one, Nat.zero_add, Int.reduceToNat, ones, one, add_mk, Decidable.not_not, cond_true, cond_false, true_implies, false_implies, implies_true, Bool.not_true, Bool.not_false]
  refine ⟨fun c1 => ⟨fun c2 => ⟨fun c3 => ⟨fun c4 => ⟨fun c5 => ⟨fun c6 => bad (by omega) _ (Ext.refl _), fun c6 w1 q1 => ⟨fun _ => False, (words : Nat), fun w2 u => ((hb.ext q1.ext).ext u).cell 0, ⟨(rused_spec (h0.ext q1.ext)).mono ?_⟩⟩⟩, fun c5 => bad (by omega) _ (Ext.refl _)⟩, fun c4 => bad (by omega) _ (Ext.refl _)⟩, fun c3 => bad (by omega) _ (Ext.refl _)⟩, fun c2 => bad (by omega) _ (Ext.refl _)⟩, fun c1 => bad (by omega) _ (Ext.refl _)⟩
  rintro e w2 ⟨rfl, x12⟩
  obtain ⟨a, rfl⟩ : ∃ a : Nat, fn = a := ⟨fn.toNat, by omega⟩
  obtain ⟨m, rfl⟩ : ∃ m : Nat, lo = m := ⟨lo.toNat, by omega⟩
  obtain ⟨y, rfl⟩ : ∃ t : Nat, hi = t := ⟨hi.toNat, by omega⟩
  have x02 : Ext w w2 := q1.ext.trans x12
  refine ⟨_, rfl, x12, ?_⟩
  rw [wrap_i64 (n := ((used L : Nat) : Int) + 3) (by omega) (by omega), wrap_i64 (n := _ + (m : Int)) (by omega) (by omega), wrap_i64 (by omega) (by omega)]
  refine ⟨fun hs => ?_, fun hs w3 q3 => ?_⟩
  · rw [enterL, if_neg (by omega), if_pos (by omega)]
    exact ⟨rfl, h0.stay x02⟩
  rw [enterL, if_neg (by omega), if_neg (by omega)]
  simp only [Int.toNat_natCast]
  have x03 : Ext w w3 := x02.trans q3.ext
  have hb3 := hb.ext x03
  have h3 := (h.ext x03).at_
  have hl := h3.len
  have hsm := h3.small
  have og : ¬ ∃ p, fs.a = some p ∧ g = p.block := fun ⟨p, hp, e⟩ => own_blk_ne h3.row h3.hd (by decide) p hp e.symm
  refine ⟨fun k => ∃ p, fs.a = some p ∧ k = p.block, fs, fun w4 u => (hb3.upd u og).cell 1, ⟨by omega, by omega, by omega, by omega⟩, fun w4 n4 => ⟨n4.ext.mono fun _ _ _ => not_false, Nat.le_of_ble_eq_true rfl, Nat.le_of_ble_eq_true rfl, rfl, fun w5 n5 => ⟨n5.ext.mono fun _ _ _ => not_false, ?_⟩⟩⟩
  have x35 : Ext w3 w5 := n4.ext.trans n5.ext
  have x05 : Ext w w5 := x03.trans x35
  have h5 := h3.upd (S := fun _ => False) x35 not_false (fun _ _ => not_false) (fun _ _ _ _ => not_false)
  generalize hnt : (((⟨a, 0, y, List.replicate m 0, []⟩ : Fr), (⟨some ⟨w3.heap.size, 0, none⟩, m, m⟩ : Sl), (⟨none, 0, 0⟩ : Sl)) : Tr) = nt
  have hx5 : Rd w5 5 ⟨some ⟨w4.heap.size, 0, none⟩, 1, 1⟩ (rrow nt) := by
    rw [← hnt]
    exact (Blk.new n5).rd (by simp)
  have hnl : Own w5 0 34 1 nt.2.1 (uv nt.1.ls) := by
    rw [← hnt]
    have := (Own.made n4 (Nat.zero_le _) (Nat.le_refl m) (by omega)).ext n5.ext
    simpa [uv] using this
  have hno : Own w5 0 34 1 nt.2.2 (uv nt.1.ops) := by rw [← hnt]; exact Own.nil ..
  obtain ⟨r, w6, hr6, hrn, ho6, hu6, hf6⟩ := h5.row.append (t := 59) (ty := 59) tab_ok rfl rfl (by decide) hx5 (rrow_ones _) (by simp only; omega) (by simp only; omega) (Nat.zero_le _)
  have hb6 := (hb3.ext x35).upd hu6 og
  refine ⟨r, w6, hr6, hu6, hb6.canSet 1 (by simp), fun w7 hs7 => ⟨trivial, ?_⟩⟩
  have hb7 := hs7.blk1 hb6
  simp only [List.set_cons_succ, List.set_cons_zero] at hb7
  have u67 : Upd (fun k => k = g) w6 w7 := hs7.upd
  have keep : ∀ {s : Sl} {xs : List Value}, Own w5 0 34 1 s xs → Own w7 0 34 1 s xs := fun ho =>
    (ho.upd hu6 fun q hq ⟨p, hp, e⟩ => own_ne h5.row ho (by decide) p q hp hq e.symm).upd u67 fun q hq e => by
      have := ho.upd hu6 fun q hq ⟨p, hp, e⟩ => own_ne h5.row ho (by decide) p q hp hq e.symm
      exact own_blk_ne this hb6 (by decide) q hq e
  have o7 := ho6.upd u67 fun p hp e => own_blk_ne ho6 hb6 (by decide) p hp e
  have hlt : ∀ s ∈ sls Q, ∀ p, s.a = some p → p.block < w3.heap.size := fun s hs p hp => Nat.lt_of_lt_of_le (h.lt _ (h.g3 s hs p hp)) x03.size
  have r7 : RAt w7 g words r (Q ++ [nt]) := by
    refine ⟨hb7, ?_, fun x hx => ?_, fun x hx => ?_, fun x hx => ?_, ?_, ?_, hbig⟩
    · rw [rflat_append]; simpa [rflat] using o7
    · rcases List.mem_append.1 hx with hx | hx
      · exact keep (h5.ls x hx)
      · simp at hx; subst hx; exact keep hnl
    · rcases List.mem_append.1 hx with hx | hx
      · exact keep (h5.ops x hx)
      · simp at hx; subst hx; exact keep hno
    · rcases List.mem_append.1 hx with hx | hx
      · exact h5.ok x hx
      · simp at hx; subst hx
        rw [← hnt]
        exact ⟨by simp only; omega, by simp only; omega, by simp; omega, by simp only; omega, by simp⟩
    · rw [sls_append, List.pairwise_append]
      refine ⟨h5.ap, ?_, fun s hs b hb' => ?_⟩
      · rw [← hnt]
        simp only [sls, List.pairwise_cons, List.mem_cons, List.not_mem_nil, or_false, forall_eq]
        exact ⟨fun p q _ hq => (by cases hq), fun _ h => h.elim, .nil⟩
      · rw [← hnt] at hb'
        simp only [sls, List.mem_cons, List.not_mem_nil, or_false] at hb'
        rcases hb' with rfl | rfl
        · intro p q hp hq
          injection hq with hq
          subst hq
          have := hlt s hs p hp
          simp only
          omega
        · intro p q _ hq; cases hq
    · rw [List.map_append, used_append, hQL, ← hnt]
      simp [used_one, Fr.size]
      omega
  refine h.left (x05.upd ((hu6.trans u67 (R := fun k => (∃ p, fs.a = some p ∧ k = p.block) ∨ k = g) fun i _ hi => ⟨fun h => hi (.inl h), fun h => hi (.inr h)⟩).mono fun k _ hk e => hk ?_)) r7 (fun p hp => ?_) (fun s hs p hp => ?_) ?_
  · rcases e with ⟨p, hp, e⟩ | e
    · rw [e]; exact h.g2 p hp
    · rw [e]; exact h.g1
  · rcases hf6 p hp with h' | h'
    · exact .inl (h.g2 p h')
    · right; have := x05.size; omega
  · rw [sls_append] at hs
    rcases List.mem_append.1 hs with hs | hs
    · exact .inl (h.g3 s hs p hp)
    · rw [← hnt] at hs
      simp only [sls, List.mem_cons, List.not_mem_nil, or_false] at hs
      rcases hs with rfl | rfl
      · injection hp with hp
        subst hp
        right
        exact x03.size
      · cases hp
  · rw [List.map_append, hQL, ← hnt]
    rfl
end
end Go.Proofs.Ytodbmiflnellcaa.V
