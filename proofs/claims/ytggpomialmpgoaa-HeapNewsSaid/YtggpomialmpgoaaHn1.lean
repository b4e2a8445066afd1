/-
  Law HeapNews: the walk.
-/
import Derived.Test.YtggpomialmpgoaaHp4
import Derived.Test.YtggpomialmpgoaaRow
import Derived.Test.YtggpomialmpgoaaVcD
namespace Go.Proofs.Ytggpomialmpgoaa.V
open Go Go.RowKit
set_option linter.unusedVariables false
set_option linter.unusedSimpArgs false
set_option maxRecDepth 100000

def wordsH : Hd := ⟨2, 0, 0, 0⟩
theorem newHT_some {n : Int} {fl : List Int} {zero : Bool} {H : Hp} (h : newHT n fl zero = some H) : 0 ≤ n ∧ n ≤ 65536 ∧ fl.length ≤ 65536 ∧ H = ⟨newA n.toNat, fl, zero, false, 0, 0, 0⟩ := by
  unfold newHT at h
  split at h
  · rename_i hh; injection h with h; exact ⟨hh.1, hh.2.1, hh.2.2.1, h.symm⟩
  · cases h
theorem heapnews_walk (w : World) (v0 v1 v2 : Value) (x0 : Int) (x1 : (Par.one (.sl 8 (.cons (.int .i64) .nil))).T) (x2 : Bool) (h0 : (Par.one (.int .i64)).Is w v0 x0) (h1 : (Par.one (.sl 8 (.cons (.int .i64) .nil))).Is w v1 x1) (h2 : (Par.one .bool).Is w v2 x2) :
    Calls Try.prog 4 #[v0, v1, v2] w fun e w' => e = .returned (.bool true) ∧ Ext w w' := by
  obtain ⟨rfl, r0⟩ := h0
  obtain ⟨rfl, hc, hm, _, fl, hfl, hfb⟩ := is_ints h1
  obtain rfl : v2 = .bool x2 := h2
  have r0 := wf_i64 r0
  obtain ⟨forced, ls⟩ := x1
  dsimp only at *
  have hn := hfl.leni
  refine vc_4 x0 forced x2 _ _ ?_
  have e2 : IntKind.i64.wrap ((forced.n : Int) + 2) = ((forced.n + 2 : Nat) : Int) := by rw [wrap_i64 (by omega) (by omega)]; omega
  have e1 : IntKind.i64.wrap ((forced.n : Int) + 1) = ((forced.n + 1 : Nat) : Int) := by rw [wrap_i64 (by omega) (by omega)]; omega
  simp only [eq_self, false_or, or_false, true_and, and_true, decide_eq_true_eq, decide_eq_false_iff_not, gd_st, gd_sf, exists_eq_left', exists_eq_left, Option.some.injEq, Sl.eta, Nat.reduceLeDiff, Int.reduceLE, Int.reduceLT, Int.reduceEq, Int.reduceNe, Nat.reduceMul, Nat.reduceAdd, Nat.reduceSub, Int.toNat_natCast, beq_iff_eq, bne_iff_ne, beq_eq_false_iff_ne, bne_eq_false_iff_eq, pick_and, pick_or, Bool.and_eq_true, Bool.or_eq_true, Bool.and_eq_false_iff, Bool.or_eq_false_iff, ne_eq, not_false_eq_true, Bool.not_eq_true', Bool.not_eq_false', reduceCtorEq, Nat.le_refl, Nat.zero_mul, Nat.mul_one, Nat.zero_add, Int.reduceToNat, ones, one, add_mk, Decidable.not_not, cond_true, cond_false, true_implies, false_implies, implies_true, Bool.not_true, Bool.not_false]
  rw [e2, e1]
  simp only [Int.toNat_natCast]
  refine ⟨(shown_spec w).mono ?_⟩
  rintro e w1 ⟨rfl, x01⟩
  refine ⟨_, rfl, ⟨by omega, by omega, by omega, by omega⟩, fun w2 n2 => ?_⟩
  have z1 := x01.size; have z2 := n2.size
  have b2 := Blk.new n2
  rw [zrow_one] at b2
  obtain ⟨w3, hr3, b3, u3, z3⟩ := run_copy (t1 := 22) (t2 := 22) (ty := 3) tab_ok (by rfl) (by rfl) (o := 0) (dn := forced.n + 2) (dc := forced.n + 2) b2 (by simp) (hfl.ext (x01.trans n2.ext)) (iv_ones _)
  have hmin : min forced.n (forced.n + 2) = forced.n := by omega
  rw [List.take_zero, List.nil_append, Nat.zero_add, hmin, List.take_of_length_le (by rw [iv_length]; omega), List.drop_replicate, show forced.n + 2 - forced.n = 2 by omega] at b3
  rw [hmin] at hr3
  have l3 : (iv fl ++ List.replicate 2 (Value.int .i64 0)).length = forced.n + 2 := by simp [hn]
  refine ⟨_, w3, hr3, by omega, by omega, b3.canSet _ (by rw [l3]; omega), fun w4 s4 => ⟨by omega, by omega, (s4.blk1 b3).canSet _ (by rw [List.length_set, l3]; omega), fun w5 s5 => ⟨by omega, by omega, ?_⟩⟩⟩
  have b5 := s5.blk1 (s4.blk1 b3)
  have eF : ((iv fl ++ List.replicate 2 (Value.int .i64 0)).set forced.n (.int .i64 77)).set (forced.n + 1) (.int .i64 78) = iv (fl ++ [77, 78]) := by
    have hl : (iv fl).length = forced.n := by rw [iv_length]; exact hn
    rw [List.set_append_right _ _ (by omega), List.set_append_right _ _ (by omega), hl, Nat.sub_self, show forced.n + 1 - forced.n = 1 by omega, iv_append]
    rfl
  rw [eF] at b5
  have x15 : Ext w1 w5 := ((n2.ext.fresh u3 (by rintro i rfl; exact Nat.le_refl _)).fresh s4.upd (by rintro i rfl; exact Nat.le_refl _)).fresh s5.upd (by rintro i rfl; exact Nat.le_refl _)
  have x05 := x01.trans x15
  have z5 := x15.size
  have hl5 := b5.lt
  have rd5 : Rd w5 1 ⟨some ⟨w1.heap.size, 0, none⟩, forced.n, forced.n + 2⟩ (iv fl) := by
    have := b5.rd (z := 1) (o := 0) (n := forced.n) (c := forced.n + 2) (by rw [iv_length, List.length_append]; simp; omega)
    simp only [Nat.mul_one, List.drop_zero] at this
    rw [iv_append, List.take_append_of_le_length (by rw [iv_length]; omega), List.take_of_length_le (by rw [iv_length]; omega)] at this
    exact this
  rw [cut0]
  refine ⟨(newH_spec (n := x0) (by omega) rd5 x2).mono ?_⟩
  rintro e w6 ⟨x56, hres⟩
  have hfl6 := hfl.ext (x05.trans x56)
  obtain ⟨a, n, rfl, hA⟩ : ∃ a n, e = .returned (.tuple #[.pointer a, .int .i64 n]) ∧ ((newHT x0 fl x2 = none ∧ a = none ∧ n = 1) ∨ ∃ x b g r H, newHT x0 fl x2 = some H ∧ a = some ⟨x, 0, none⟩ ∧ n = 0 ∧ w5.heap.size ≤ x ∧ w5.heap.size ≤ b ∧ w5.heap.size ≤ g ∧ w5.heap.size ≤ r ∧ HpW w6 x b g r H) := by
    rcases hres with ⟨h, rfl⟩ | ⟨x, b, g, r, H, h, rfl, k1, k2, k3, k4, k5⟩
    · exact ⟨_, _, rfl, .inl ⟨h, rfl, rfl⟩⟩
    · exact ⟨_, _, rfl, .inr ⟨x, b, g, r, H, h, rfl, rfl, k1, k2, k3, k4, k5⟩⟩
  refine ⟨_, _, rfl, ⟨(rnewH_spec (n := x0) (by omega) hfl6 x2).mono ?_⟩⟩
  rintro e w7 ⟨x67, hres⟩
  have z6 := x56.size; have z7 := x67.size
  obtain ⟨a', n', rfl, hB⟩ : ∃ a n, e = .returned (.tuple #[.pointer a, .int .i64 n]) ∧ ((newHT x0 fl x2 = none ∧ a = none ∧ n = 1) ∨ ∃ x b g fs H, newHT x0 fl x2 = some H ∧ a = some ⟨x, 0, none⟩ ∧ n = 0 ∧ w6.heap.size ≤ x ∧ w6.heap.size ≤ b ∧ w6.heap.size ≤ g ∧ RpW w7 x b g w6.heap.size fs H) := by
    rcases hres with ⟨h, rfl⟩ | ⟨x, b, g, r, H, h, rfl, k1, k2, k3, k5⟩
    · exact ⟨_, _, rfl, .inl ⟨h, rfl, rfl⟩⟩
    · exact ⟨_, _, rfl, .inr ⟨x, b, g, r, H, h, rfl, rfl, k1, k2, k3, k5⟩⟩
  have x07 := (x05.trans x56).trans x67
  have b7 := (b5.ext x56).ext x67
  refine ⟨_, _, rfl, fun i w' => ∃ (k : Nat) (cs : List Value), i = (k : Nat) ∧ k ≤ forced.n + 2 ∧ Blk w' w1.heap.size 3 cs ∧ cs.length = forced.n + 2 ∧ (∀ j, k ≤ j → cs[j]? = (iv (fl ++ [77, 78]))[j]?) ∧ Upd (fun i => i = w1.heap.size) w7 w', fun i _ => ((forced.n + 2 : Nat) - i).toNat,
    ⟨0, _, rfl, Nat.zero_le _, b7, by rw [iv_length, List.length_append]; simp; omega, fun j _ => rfl, (Ext.refl _).toS⟩, ?_⟩
  rintro _ i w8 ⟨k, cs, rfl, hk, b8, hcl, hcs, u8⟩
  have ei : k ≤ forced.n + 1 → IntKind.i64.wrap ((k : Int) + 1) = ((k + 1 : Nat) : Int) := fun h => by rw [wrap_i64 (by omega) (by omega)]; omega
  have z8 := u8.size
  have x08 : Ext w w8 := x07.fresh u8 (by rintro i rfl; exact z1)
  have hck : ∀ y : Int, (fl ++ [77, 78])[k]? = some y → w8.cell? ⟨w1.heap.size, ((k : Nat) : Int).toNat, none⟩ = some (.int .i64 y) := fun y hy => by
    rw [Int.toNat_natCast, b8.cell, hcs k (Nat.le_refl _)]
    unfold iv
    rw [List.getElem?_map, hy]; rfl
  have go : ∀ w9, Qt w8 w9 → k < forced.n + 2 → CanSet w9 ⟨w1.heap.size, ((k : Nat) : Int).toNat, none⟩ 1 ∧ ∀ w10, SetW w9 ⟨w1.heap.size, ((k : Nat) : Int).toNat, none⟩ [.int .i64 0] w10 → (∃ (k' : Nat) (cs : List Value), ((k + 1 : Nat) : Int) = (k' : Nat) ∧ k' ≤ forced.n + 2 ∧ Blk w10 w1.heap.size 3 cs ∧ cs.length = forced.n + 2 ∧ (∀ j, k' ≤ j → cs[j]? = (iv (fl ++ [77, 78]))[j]?) ∧ Upd (fun i => i = w1.heap.size) w7 w10) ∧ (((forced.n + 2 : Nat) : Int) - ((k + 1 : Nat) : Int)).toNat < (((forced.n + 2 : Nat) : Int) - ((k : Nat) : Int)).toNat := by
    intro w9 q9 hlt
    have b9 := b8.ext q9.ext
    rw [Int.toNat_natCast]
    refine ⟨b9.canSet k (by omega), fun w10 s10 => ⟨⟨k + 1, _, rfl, by omega, s10.blk1 b9, by rw [List.length_set]; exact hcl, fun j hj => ?_, (u8.trans q9.ext fun _ _ hn => ⟨hn, not_false⟩).trans s10.upd fun _ _ hn => ⟨hn, hn⟩⟩, by omega⟩⟩
    rw [List.getElem?_set_ne (by omega)]
    exact hcs j (by omega)
  refine ⟨fun hlt => ⟨fun hlt2 => ?_, fun hge2 => ⟨fun _ => ?_, fun hno => absurd (by omega) hno⟩⟩, fun hge => ?_⟩
  · have hk2 : k < forced.n := by omega
    obtain ⟨p, y, hp, hy, hcy⟩ := (hfl.ext x08).intl k hk2
    rw [Nat.mul_one] at hcy
    have hcc := hck y (by rw [List.getElem?_append_left (by omega)]; exact hy)
    rw [ei (by omega)]
    refine ⟨by omega, by omega, y, hcc, by omega, by omega, p, hp, y, by rw [Int.toNat_natCast]; exact hcy, fun _ => ⟨fun h => by omega, fun _ w9 q9 => ⟨by omega, by omega, go w9 q9 (by omega)⟩⟩, fun hne => absurd rfl hne⟩
  · have hkk : k = forced.n ∨ k = forced.n + 1 := by omega
    have ev : IntKind.i64.wrap (IntKind.i64.wrap (77 + (k : Int)) - (forced.n : Int)) = 77 + (k : Int) - forced.n := by rw [wrap_i64 (n := 77 + (k : Int)) (by omega) (by omega), wrap_i64 (by omega) (by omega)]
    have hcc := hck (77 + (k : Int) - forced.n) (by
      rw [List.getElem?_append_right (by omega), hn]
      rcases hkk with h | h
      · rw [h, Nat.sub_self]; show some (77 : Int) = _; congr 1; omega
      · rw [h, show forced.n + 1 - forced.n = 1 by omega]; show some (78 : Int) = _; congr 1; omega)
    rw [ei (by omega), ev]
    exact ⟨by omega, by omega, _, hcc, fun w9 q9 => ⟨fun h => absurd rfl h, fun _ => ⟨by omega, by omega, go w9 q9 (by omega)⟩⟩⟩
  · rcases hA with ⟨hA0, rfl, rfl⟩ | ⟨x, b, g, r, H, hA0, rfl, rfl, hx, hbb, hgg, hrr, H6⟩
    · rcases hB with ⟨_, rfl, rfl⟩ | ⟨_, _, _, _, _, hB0, _⟩
      · exact ⟨fun _ => ⟨fun _ => ⟨fun h => absurd rfl h, fun _ => ⟨fun _ => x08, fun h => (by cases h)⟩⟩, fun h => absurd rfl h⟩, fun h => (by cases h)⟩
      · rw [hA0] at hB0; cases hB0
    rcases hB with ⟨hB0, _⟩ | ⟨x', b', g', fs, H', hB0, rfl, rfl, hx', hb', hg', R7⟩
    · rw [hA0] at hB0; cases hB0
    rw [hA0] at hB0
    injection hB0 with hB0; subst hB0
    obtain ⟨k0, k1, kf, rfl⟩ := newHT_some hA0
    have H8 := (H6.ext x67).upd u8 (by omega) (by omega) (by omega) (by omega)
    have R8 := R7.upd u8 (by omega) (by omega) (by omega) (fun q hq => by have := R7.fo.base q hq; omega)
    refine ⟨fun _ => ⟨fun _ => ⟨fun h => absurd rfl h, fun _ => ⟨fun h => (by cases h), fun _ w9 n9 => ⟨HB.can n9, fun w10 s10 w11 q11 => ?_⟩⟩⟩, fun h => absurd rfl h⟩, fun h => (by cases h)⟩
    obtain ⟨hb10, x10⟩ := HB.made (h := wordsH) n9 s10
    have x11 := x10.trans q11.ext
    have H11 := H8.ext x11
    have R11 := R8.ext x11
    have hb11 := hb10.ext q11.ext
    refine ⟨fun _ => False, _, rfl, _, fun v u => (H11.hd.ext u).cell 0, fun _ => ⟨_, rfl, _, fun v u => (H11.hd.ext u).cell 0, ⟨(words_spec H11.ar).mono ?_⟩⟩, fun h => (by cases h)⟩
    rintro e w12 ⟨rfl, rfl⟩
    have en : (((newA x0.toNat).n : Nat) : Int) = x0 := by show ((x0.toNat : Nat) : Int) = x0; omega
    refine ⟨_, rfl, Ext.refl _, fun _ => ⟨_, _, _, _, rfl, fun v u => ⟨(hb11.ext u).cell 0, (hb11.ext u).cell 1, (hb11.ext u).cell 2, (hb11.ext u).cell 3⟩, _, _, _, _, rfl, fun v u => ⟨(hb11.ext u).cell 0, (hb11.ext u).cell 1, (hb11.ext u).cell 2, (hb11.ext u).cell 3⟩, ⟨(due_spec H11 wordsH).mono ?_⟩⟩, fun h => absurd en h⟩
    rintro e w13 ⟨rfl, x13⟩
    refine ⟨_, rfl, x13, ⟨(rdue_spec (R11.ext x13) wordsH (by show fl.length ≤ _; omega)).mono ?_⟩⟩
    rintro e w14 ⟨rfl, x14⟩
    refine ⟨_, rfl, fun _ => ⟨(stats_spec ((H11.ext x13).ext x14)).mono ?_⟩, fun h => absurd rfl h⟩
    rintro e w15 ⟨rfl, x15'⟩
    exact ⟨_, _, _, rfl, x15', rfl, (((x08.trans x11).trans x13).trans x14).trans x15'⟩
end Go.Proofs.Ytggpomialmpgoaa.V
