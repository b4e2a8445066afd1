/-
  The heap: Due, Make, Stats, of the program and of the document.
-/
import Derived.Test.YtggpomialmpgoaaHp1
namespace Go.Proofs.Ytggpomialmpgoaa.V
open Go Go.RowKit
set_option linter.unusedVariables false
set_option linter.unusedSimpArgs false
set_option maxRecDepth 100000

def Ar.left (A : Ar) : Nat := A.n - (A.use.e - A.use.f)
def dueT (H : Hp) (h : Hd) : Bool := mayT h && !H.fresh && (decide (H.al ∈ H.fl) || decide ((H.A.left : Int) < h.l + 2))
theorem dueT_may {H : Hp} {h : Hd} (hm : mayT h = false) : dueT H h = false := by unfold dueT; rw [hm]; rfl
theorem dueT_fresh {H : Hp} {h : Hd} (hf : H.fresh = true) : dueT H h = false := by unfold dueT; rw [hf]; simp
theorem dueT_forced {H : Hp} {h : Hd} (hm : mayT h = true) (hf : H.fresh = false) (ha : H.al ∈ H.fl) : dueT H h = true := by unfold dueT; rw [hm, hf, decide_eq_true ha]; rfl
theorem dueT_room {H : Hp} {h : Hd} (hm : mayT h = true) (hf : H.fresh = false) (ha : H.al ∉ H.fl) : dueT H h = decide ((H.A.left : Int) < h.l + 2) := by unfold dueT; rw [hm, hf, decide_eq_false ha]; rfl
/-- Make -/
def mkT (H : Hp) (h : Hd) (cs : List Nat) : Hp :=
  if (makeT H.A h cs).2.2 = 0 then { H with A := (makeT H.A h cs).1, al := IntKind.i64.wrap (H.al + 1), fresh := false } else { H with A := (makeT H.A h cs).1 }
section
variable {w : World} {x b g r B : Nat} {fs : Sl} {H : Hp}
theorem due_spec (h : HpW w x b g r H) (hd : Hd) : Calls Try.prog 11 #[.pointer (some ⟨x, 0, none⟩), hdV hd] w fun e w' => e = .returned (.bool (dueT H hd)) ∧ Ext w w' := by
  refine vc_11 _ _ _ _ _ _ _ ?_
  have hn := h.ar.ok.n; have lt := h.lt
  simp only [eq_self, false_or, or_false, true_and, and_true, decide_eq_true_eq, decide_eq_false_iff_not, gd_st, gd_sf, exists_eq_left', exists_eq_left, Option.some.injEq, Sl.eta, Nat.reduceLeDiff, Int.reduceLE, Int.reduceLT, Int.reduceEq, Int.reduceNe, Nat.reduceMul, Nat.reduceAdd, Nat.reduceSub, Int.toNat_natCast, beq_iff_eq, bne_iff_ne, beq_eq_false_iff_ne, bne_eq_false_iff_eq, pick_and, pick_or, Bool.and_eq_true, Bool.or_eq_true, Bool.and_eq_false_iff, Bool.or_eq_false_iff, ne_eq, not_false_eq_true, Bool.not_eq_true', Bool.not_eq_false', reduceCtorEq, Nat.le_refl, Nat.zero_mul, Nat.mul_one, Nat.zero_add, Int.reduceToNat, ones, one, add_mk, Decidable.not_not, cond_true, cond_false, true_implies, false_implies, implies_true, Bool.not_true, Bool.not_false]
  intro w1 n1
  have z1 := n1.size
  have h1 := h.ext n1.ext
  have hb1 : HB w1 w.heap.size hd := Blk.new n1
  refine ⟨_, _, _, _, rfl, ⟨hb1.cell 0, hb1.cell 1, hb1.cell 2, hb1.cell 3⟩, ⟨(pack_spec hd w1).mono ?_⟩⟩
  rintro e w2 ⟨rfl, x2⟩
  have ep : (packO hd).2 = mayT hd := by unfold packO; split <;> simp_all
  rw [ep]
  have h2 := h1.ext x2
  refine ⟨_, _, rfl, fun hm => ⟨_, h2.hd.cell 3, fun hf => ⟨by rw [dueT_fresh hf], n1.ext.trans x2⟩, fun hf => ?_⟩, fun hm => ⟨by rw [dueT_may hm], n1.ext.trans x2⟩⟩
  refine ⟨fun bb w' => bb = decide (H.al ∈ H.fl) ∧ Ext w2 w', fun w3 q3 => ?_, ?_⟩
  · have x3 := q3.ext
    have h3 := h2.ext x3
    have z3 := x3.size; have z2 := x2.size
    have lk : ∀ {v : World}, Ext w3 v → Runs Try.prog (Instr.lookup 30 (.map (some r)) (.int .i64 H.al) true) v (.tuple #[.agg #[], .bool (decide (H.al ∈ H.fl))]) v := fun {v} xv => by
      have := MapI.look2 fm_und fm_key (fm_zero v) (h3.ext xv).mp H.al
      rw [fF_get, fF_some] at this
      exact this
    refine ⟨fun k => w3.heap.size ≤ k, _, fun v u => (h3.hd.upd u (by omega)).cell 1, _, fun v u => (h3.hd.upd u (by omega)).cell 4, ⟨_, w3, lk (Ext.refl _), (Ext.refl _).toS, fun w4 n4 => ⟨n4.ext.toS, (Blk.new n4).canSetN 0 0 (by simp), fun w5 s5 => ⟨s5.upd.mono fun i hi hn e => hn (by dsimp only at e; omega), rfl, x3.trans (n4.ext.fresh s5.upd (by rintro i rfl; exact Nat.le_refl _))⟩⟩⟩, fun w4 n4 => ⟨n4.ext.toS, _, w4, lk n4.ext, (Ext.refl _).toS, (Blk.new n4).canSetN 0 0 (by simp), fun w5 s5 => ⟨s5.upd.mono fun i hi hn e => hn (by dsimp only at e; omega), rfl, x3.trans (n4.ext.fresh s5.upd (by rintro i rfl; exact Nat.le_refl _))⟩⟩⟩
  rintro _ bb w3 ⟨rfl, x3⟩ w4 q4
  have x24 := x3.trans q4.ext
  have h4 := h2.ext x24
  have hb4 := (hb1.ext x2).ext x24
  have x04 := (n1.ext.trans x2).trans x24
  refine ⟨fun _ => False, fun ha => ⟨_, fun v u => (hb4.ext u).cell 2, _, fun v u => (h4.hd.ext u).cell 0, ⟨(left_spec h4.ar).mono ?_⟩⟩, fun ha => ⟨by rw [dueT_forced hm hf (of_decide_eq_true ha)], x04⟩⟩
  rintro e w5 ⟨rfl, q5⟩
  have hM : MayT hd := of_decide_eq_true hm
  have ew : IntKind.i64.wrap (hd.l + 2) = hd.l + 2 := wrap_i64 (by have := hM.2.2.1; omega) (by have := hM.le; omega)
  rw [ew]
  refine ⟨_, rfl, q5.ext, ?_, x04.trans q5.ext⟩
  rw [dueT_room hm hf (of_decide_eq_false ha)]
  rfl
theorem rdue_spec (h : RpW w x b g B fs H) (hd : Hd) (hfm : H.fl.length ≤ 100000000000000) : Calls Try.prog 18 #[.pointer (some ⟨x, 0, none⟩), hdV hd] w fun e w' => e = .returned (.bool (dueT H hd)) ∧ Ext w w' := by
  refine vc_18 _ _ _ _ _ _ _ ?_
  have hn := h.ar.ok.n; have lt := h.lt; have hi := h.ar.ok.useIn; have h1' := h.ar.ok.use1
  have hfn := h.fo.rd.leni
  simp only [eq_self, false_or, or_false, true_and, and_true, decide_eq_true_eq, decide_eq_false_iff_not, gd_st, gd_sf, exists_eq_left', exists_eq_left, Option.some.injEq, Sl.eta, Nat.reduceLeDiff, Int.reduceLE, Int.reduceLT, Int.reduceEq, Int.reduceNe, Nat.reduceMul, Nat.reduceAdd, Nat.reduceSub, Int.toNat_natCast, beq_iff_eq, bne_iff_ne, beq_eq_false_iff_ne, bne_eq_false_iff_eq, pick_and, pick_or, Bool.and_eq_true, Bool.or_eq_true, Bool.and_eq_false_iff, Bool.or_eq_false_iff, ne_eq, not_false_eq_true, Bool.not_eq_true', Bool.not_eq_false', reduceCtorEq, Nat.le_refl, Nat.zero_mul, Nat.mul_one, Nat.zero_add, Int.reduceToNat, ones, one, add_mk, Decidable.not_not, cond_true, cond_false, true_implies, false_implies, implies_true, Bool.not_true, Bool.not_false]
  intro w1 n1
  have z1 := n1.size
  have h1 := h.ext n1.ext
  have hb1 : HB w1 w.heap.size hd := Blk.new n1
  refine ⟨_, _, _, _, rfl, ⟨hb1.cell 0, hb1.cell 1, hb1.cell 2, hb1.cell 3⟩, ⟨(rmay_spec hd w1).mono ?_⟩⟩
  rintro e w2 ⟨rfl, x2⟩
  have h2 := h1.ext x2
  refine ⟨_, rfl, fun hm => ⟨_, h2.hd.cell 3, fun hf => ⟨by rw [dueT_fresh hf], n1.ext.trans x2⟩, fun hf => ?_⟩, fun hm => ⟨by rw [dueT_may hm], n1.ext.trans x2⟩⟩
  refine ⟨fun i w' => ∃ k : Nat, i = (k : Nat) ∧ k ≤ H.fl.length ∧ H.al ∉ H.fl.take k ∧ Ext w2 w', fun i _ => (H.fl.length - i).toNat, ⟨0, rfl, Nat.zero_le _, by simp, Ext.refl _⟩, ?_⟩
  rintro _ i w3 ⟨k, rfl, hk, hno, x3⟩
  have h3 := h2.ext x3
  have ei : IntKind.i64.wrap ((k : Int) + 1) = ((k + 1 : Nat) : Int) := by rw [wrap_i64 (by omega) (by omega)]; omega
  rw [ei]
  refine ⟨fs, h3.hd.cell 1, fun hlt => ?_, fun hge w4 q4 => ?_⟩
  · obtain ⟨p, y, hp, hy, hc⟩ := h3.fo.rd.intl k (by omega)
    rw [Nat.mul_one] at hc
    refine ⟨fs, h3.hd.cell 1, by omega, hlt, p, hp, y, by rw [Int.toNat_natCast]; exact hc, _, h3.hd.cell 4, fun w4 q4 => ⟨fun he => ⟨?_, ((n1.ext.trans x2).trans x3).trans q4.ext⟩, fun hne => ⟨⟨k + 1, rfl, by omega, ?_, x3.trans q4.ext⟩, by dsimp only; omega⟩⟩⟩
    · rw [dueT_forced hm hf (by rw [← he]; exact List.mem_of_getElem? hy)]
    · rw [take_snoc hy]
      intro hh
      rcases List.mem_append.1 hh with hh | hh
      · exact hno hh
      · rw [List.mem_singleton] at hh; exact hne hh.symm
  · rw [List.take_of_length_le (by omega)] at hno
    have x24 := x3.trans q4.ext
    have h4 := h2.ext x24
    have hb4 := (hb1.ext x2).ext x24
    have x04 := (n1.ext.trans x2).trans x24
    refine ⟨fun _ => False, _, fun v u => (hb4.ext u).cell 2, _, fun v u => (h4.hd.ext u).cell 0, _, rfl, _, fun v u => (h4.ar.hd.ext u).cell 0, _, fun v u => (h4.hd.ext u).cell 0, ⟨(rused_spec h4.ar).mono ?_⟩⟩
    rintro e w5 ⟨rfl, q5⟩
    have hM : MayT hd := of_decide_eq_true hm
    have ew : IntKind.i64.wrap (hd.l + 2) = hd.l + 2 := wrap_i64 (by have := hM.2.2.1; omega) (by have := hM.le; omega)
    have el : IntKind.i64.wrap ((H.A.n : Int) - ((H.A.use.e - H.A.use.f : Nat) : Int)) = ((H.A.left : Nat) : Int) := by
      unfold Ar.left
      rw [wrap_i64 (by omega) (by omega)]; omega
    rw [ew]
    refine ⟨_, rfl, q5.ext, ?_, x04.trans q5.ext⟩
    rw [el, dueT_room hm hf hno]
theorem makeH_spec (h : HpW w x b g r H) (hd : Hd) {s : Sl} {cs : List Nat} (hs : Rd w 1 s (uv cs)) (hoff : s.off fun k => k = b ∨ k = g) (hm : cs.length ≤ 1000000000000000) (hc : ∀ y ∈ cs, y < 18446744073709551616) :
    Calls Try.prog 14 #[.pointer (some ⟨x, 0, none⟩), hdV hd, .slice s.a s.n s.c] w fun e w' => e = .returned (.tuple #[.int .u64 ((makeT H.A hd cs).2.1 : Nat), .int .i64 (makeT H.A hd cs).2.2]) ∧ HpW w' x b g r (mkT H hd cs) ∧ Upd (fun k => k = b ∨ k = g ∨ k = x) w w' := by
  refine vc_14 _ _ _ _ _ _ _ _ ?_
  have lt := h.lt; have ap := h.ap
  simp only [eq_self, false_or, or_false, true_and, and_true, decide_eq_true_eq, decide_eq_false_iff_not, gd_st, gd_sf, exists_eq_left', exists_eq_left, Option.some.injEq, Sl.eta, Nat.reduceLeDiff, Int.reduceLE, Int.reduceLT, Int.reduceEq, Int.reduceNe, Nat.reduceMul, Nat.reduceAdd, Nat.reduceSub, Int.toNat_natCast, beq_iff_eq, bne_iff_ne, beq_eq_false_iff_ne, bne_eq_false_iff_eq, pick_and, pick_or, Bool.and_eq_true, Bool.or_eq_true, Bool.and_eq_false_iff, Bool.or_eq_false_iff, ne_eq, not_false_eq_true, Bool.not_eq_true', Bool.not_eq_false', reduceCtorEq, Nat.le_refl, Nat.zero_mul, Nat.mul_one, Nat.zero_add, Int.reduceToNat, ones, one, add_mk, Decidable.not_not, cond_true, cond_false, true_implies, false_implies, implies_true, Bool.not_true, Bool.not_false]
  intro w1 n1 w2 q2
  have z1 := n1.size
  have x2 := n1.ext.trans q2.ext
  have h2 := h.ext x2
  have hb2 : HB w2 w.heap.size hd := (Blk.new n1).ext q2.ext
  refine ⟨fun _ => False, _, fun v u => (h2.hd.ext u).cell 0, _, _, _, _, rfl, fun v u => ⟨(hb2.ext u).cell 0, (hb2.ext u).cell 1, (hb2.ext u).cell 2, (hb2.ext u).cell 3⟩, ⟨(make_spec h2.ar hd (hs.ext x2) hoff hm hc).mono ?_⟩⟩
  rintro e w3 ⟨rfl, a3, u3⟩
  have hd3 := h2.hd.upd u3 (by omega)
  have m3 := h2.mp.upd u3 (by omega)
  have U3 : Upd (fun k => k = b ∨ k = g ∨ k = x) w w3 := x2.toS.trans u3 fun i _ hn => ⟨hn, fun e => hn (by omega)⟩
  refine ⟨_, _, rfl, fun he => ⟨_, hd3.cell 4, hd3.canSet 4 (by simp), fun w4 s4 => ?_⟩, fun hne => ⟨rfl, ?_, U3⟩⟩
  · have s4' : SetW w3 ⟨x, 4, none⟩ [.int .i64 (IntKind.i64.wrap (H.al + 1))] w4 := s4
    have hd4 := s4'.blk1 hd3
    refine ⟨hd4.canSet 3 (by simp), fun w5 s5 => ?_⟩
    have s5' : SetW w4 ⟨x, 3, none⟩ [.bool false] w5 := s5
    have hd5 := s5'.blk1 hd4
    have u4 : Upd (fun i => i = x) w3 w4 := s4'.upd
    have u5 : Upd (fun i => i = x) w4 w5 := s5'.upd
    have e1 : mkT H hd cs = { H with A := (makeT H.A hd cs).1, al := IntKind.i64.wrap (H.al + 1), fresh := false } := by unfold mkT; rw [if_pos he]
    rw [e1]
    exact ⟨rfl, ⟨(a3.upd u4 (by omega) (by omega)).upd u5 (by omega) (by omega), hd5, (m3.upd u4 (by omega)).upd u5 (by omega)⟩, (U3.trans u4 fun i _ hn => ⟨hn, fun e => hn (by omega)⟩).trans u5 fun i _ hn => ⟨hn, fun e => hn (by omega)⟩⟩
  · have e1 : mkT H hd cs = { H with A := (makeT H.A hd cs).1 } := by unfold mkT; rw [if_neg hne]
    rw [e1]
    exact ⟨a3, hd3, m3⟩
theorem rmakeH_spec (h : RpW w x b g B fs H) (hd : Hd) {s : Sl} {cs : List Nat} (hs : Rd w 1 s (uv cs)) (hm : cs.length ≤ 1000000000000000) (hc : ∀ y ∈ cs, y < 18446744073709551616) :
    Calls Try.prog 48 #[.pointer (some ⟨x, 0, none⟩), hdV hd, .slice s.a s.n s.c] w fun e w' => e = .returned (.tuple #[.int .u64 ((makeT H.A hd cs).2.1 : Nat), .int .i64 (makeT H.A hd cs).2.2]) ∧ RpW w' x b g B fs (mkT H hd cs) ∧ Upd (fun k => k = b ∨ k = g ∨ k = x) w w' := by
  refine vc_48 _ _ _ _ _ _ _ _ ?_
  have lt := h.lt; have ap := h.ap
  simp only [eq_self, false_or, or_false, true_and, and_true, decide_eq_true_eq, decide_eq_false_iff_not, gd_st, gd_sf, exists_eq_left', exists_eq_left, Option.some.injEq, Sl.eta, Nat.reduceLeDiff, Int.reduceLE, Int.reduceLT, Int.reduceEq, Int.reduceNe, Nat.reduceMul, Nat.reduceAdd, Nat.reduceSub, Int.toNat_natCast, beq_iff_eq, bne_iff_ne, beq_eq_false_iff_ne, bne_eq_false_iff_eq, pick_and, pick_or, Bool.and_eq_true, Bool.or_eq_true, Bool.and_eq_false_iff, Bool.or_eq_false_iff, ne_eq, not_false_eq_true, Bool.not_eq_true', Bool.not_eq_false', reduceCtorEq, Nat.le_refl, Nat.zero_mul, Nat.mul_one, Nat.zero_add, Int.reduceToNat, ones, one, add_mk, Decidable.not_not, cond_true, cond_false, true_implies, false_implies, implies_true, Bool.not_true, Bool.not_false]
  intro w1 n1 w2 q2
  have z1 := n1.size
  have x2 := n1.ext.trans q2.ext
  have h2 := h.ext x2
  have hb2 : HB w2 w.heap.size hd := (Blk.new n1).ext q2.ext
  refine ⟨fun _ => False, _, fun v u => (h2.hd.ext u).cell 0, _, _, _, _, rfl, fun v u => ⟨(hb2.ext u).cell 0, (hb2.ext u).cell 1, (hb2.ext u).cell 2, (hb2.ext u).cell 3⟩, ⟨(rmake_spec h2.ar hd (hs.ext x2) hm hc).mono ?_⟩⟩
  rintro e w3 ⟨rfl, a3, u3⟩
  have hf := ap.2.2.2
  have hd3 := h2.hd.upd u3 (by omega)
  have m3 := h2.fo.upd u3 (fun q hq e => by have := hf q hq; omega)
  have U3 : Upd (fun k => k = b ∨ k = g ∨ k = x) w w3 := x2.toS.trans u3 fun i _ hn => ⟨hn, fun e => hn (by omega)⟩
  refine ⟨_, _, rfl, fun he => ⟨_, hd3.cell 4, hd3.canSet 4 (by simp), fun w4 s4 => ?_⟩, fun hne => ⟨rfl, ?_, U3⟩⟩
  · have s4' : SetW w3 ⟨x, 4, none⟩ [.int .i64 (IntKind.i64.wrap (H.al + 1))] w4 := s4
    have hd4 := s4'.blk1 hd3
    refine ⟨hd4.canSet 3 (by simp), fun w5 s5 => ?_⟩
    have s5' : SetW w4 ⟨x, 3, none⟩ [.bool false] w5 := s5
    have hd5 := s5'.blk1 hd4
    have u4 : Upd (fun i => i = x) w3 w4 := s4'.upd
    have u5 : Upd (fun i => i = x) w4 w5 := s5'.upd
    have e1 : mkT H hd cs = { H with A := (makeT H.A hd cs).1, al := IntKind.i64.wrap (H.al + 1), fresh := false } := by unfold mkT; rw [if_pos he]
    rw [e1]
    exact ⟨rfl, ⟨(a3.upd u4 (by omega) (by omega)).upd u5 (by omega) (by omega), hd5, (m3.upd u4 (fun q hq e => by have := hf q hq; omega)).upd u5 (fun q hq e => by have := hf q hq; omega)⟩, (U3.trans u4 fun i _ hn => ⟨hn, fun e => hn (by omega)⟩).trans u5 fun i _ hn => ⟨hn, fun e => hn (by omega)⟩⟩
  · have e1 : mkT H hd cs = { H with A := (makeT H.A hd cs).1 } := by unfold mkT; rw [if_neg hne]
    rw [e1]
    exact ⟨a3, hd3, m3⟩
theorem stats_spec (h : HpW w x b g r H) : Calls Try.prog 15 #[.pointer (some ⟨x, 0, none⟩)] w fun e w' => e = .returned (.agg #[.int .i64 H.al, .int .i64 H.co, .int .i64 H.cp]) ∧ Ext w w' := by
  refine vc_15 _ _ _ ?_
  simp only [eq_self, false_or, or_false, true_and, and_true, decide_eq_true_eq, decide_eq_false_iff_not, gd_st, gd_sf, exists_eq_left', exists_eq_left, Option.some.injEq, Sl.eta, Nat.reduceLeDiff, Int.reduceLE, Int.reduceLT, Int.reduceEq, Int.reduceNe, Nat.reduceMul, Nat.reduceAdd, Nat.reduceSub, Int.toNat_natCast, beq_iff_eq, bne_iff_ne, beq_eq_false_iff_ne, bne_eq_false_iff_eq, pick_and, pick_or, Bool.and_eq_true, Bool.or_eq_true, Bool.and_eq_false_iff, Bool.or_eq_false_iff, ne_eq, not_false_eq_true, Bool.not_eq_true', Bool.not_eq_false', reduceCtorEq, Nat.le_refl, Nat.zero_mul, Nat.mul_one, Nat.zero_add, Int.reduceToNat, ones, one, add_mk, Decidable.not_not, cond_true, cond_false, true_implies, false_implies, implies_true, Bool.not_true, Bool.not_false]
  intro w1 n1
  have h1 := h.ext n1.ext
  refine ⟨_, _, _, rfl, ⟨h1.hd.cell 4, h1.hd.cell 5, h1.hd.cell 6⟩, rfl, (Blk.new n1).canSetN 0 3 (by simp), fun w2 s2 => ?_⟩
  have k2 := s2.blk (Blk.new n1)
  simp only [setsL, List.set] at k2
  exact ⟨_, _, _, rfl, ⟨k2.cell 0, k2.cell 1, k2.cell 2⟩, rfl, n1.ext.fresh s2.upd (by rintro i rfl; exact Nat.le_refl _)⟩
end
end Go.Proofs.Ytggpomialmpgoaa.V
