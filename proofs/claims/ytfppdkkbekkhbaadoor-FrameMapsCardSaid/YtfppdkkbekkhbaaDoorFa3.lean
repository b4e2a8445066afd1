/-
  Rows of words: growing, joining rows, text of slots.
-/
import Derived.Test.YtfppdkkbekkhbaaDoorFa2
import Derived.Test.YtfppdkkbekkhbaaDoorShelf
import Derived.Lib.AppendZeros
namespace Go.Proofs.YtfppdkkbekkhbaaDoor.V
open Go Go.RowKit
set_option linter.unusedVariables false
set_option linter.unusedSimpArgs false
set_option maxRecDepth 100000

theorem below_ext {w w' : World} (h : Below w.heap.size w w') : Ext w w' := ⟨h.os, h.tape, h.output, h.size, fun k hk _ => h.block k hk⟩
theorem grow_ext (w : World) (k : Nat) (os : Array Obj) : Ext w (Sort.grow (w.drewN k) os) :=
  ⟨rfl, rfl, rfl, by show w.heap.size ≤ (w.heap ++ os).size; simp, fun i hi _ => by show (w.heap ++ os)[i]? = w.heap[i]?; rw [Array.getElem?_append_left hi]⟩
/-- appended to nothing: noughts -/
theorem app_zeros {P : Program} {τ : Tab} (hτ : τ.Ok P) {t tn ty e by_ B : Nat} {v : Value} (ht : lk τ.und t = some (.slice e)) (hn : lk τ.und tn = some (.int .i64)) (hs : lk τ.siz e = some (1, by_, [v])) {w : World} {n : Nat} (h0 : 0 < n) (hm : n * by_ ≤ 281474976710656) (h63 : n ≤ 9223372036854775807) (hB : B ≤ w.heap.size) :
    ∃ c w', Runs P (Builtin.append_ #[t, tn] ty #[.slice none 0 0, .int .i64 (n : Nat)]) w (.slice (some ⟨w.heap.size, 0, none⟩) n c) w' ∧ Own w' B e 1 ⟨some ⟨w.heap.size, 0, none⟩, 0, c⟩ [] ∧ Ext w w' := by
  obtain ⟨i, hi, hi1, hi2, hi3, zv, hz1, hz2⟩ := hτ.siz _ _ _ _ hs
  have hr := Lib.run_append_nil_zeros (P := P) w t tn ty e i zv .i64 .i64 (hτ.slice ht) (hτ.int hn) hi hz1 n h0 (by omega) (by omega) (by rw [hi2]; exact hm)
  have hmax : n ≤ maxLen := by unfold maxLen; simp; omega
  have hge := grownCap_ge w n 0 e
  have hcm := grownCap_le_maxLen w n 0 e hmax
  have hsz : zv.cells.size = 1 := by rw [hz2]; rfl
  refine ⟨_, _, hr, ?_, ?_⟩
  · have hb : Blk (w.drew.alloc (.cells (Builtin.zeroCells zv.cells n ++ Builtin.zeroCells zv.cells (grownCap w n 0 e - n)) e)) w.heap.size e (Builtin.zeroCells zv.cells n ++ Builtin.zeroCells zv.cells (grownCap w n 0 e - n)).toList := heap_alloc_new w.drew _
    have := Own.of_blk (s := ⟨some ⟨w.heap.size, 0, none⟩, 0, grownCap w n 0 e⟩) (z := 1) hb hB rfl (Nat.zero_le _) hcm (by
      rw [Array.length_toList, Array.size_append, size_zeroCells, size_zeroCells, hsz]; dsimp only; omega)
    rw [Nat.zero_mul, List.take_zero] at this
    exact this
  · exact ⟨rfl, rfl, rfl, by show w.heap.size ≤ (w.drew.alloc _).heap.size; simp, fun k hk _ => Below.heap_alloc w.drew _ k hk⟩
def sv (l : List ByteArray) : List Value := l.map Value.string
theorem sv_ones (l : List ByteArray) : ∀ v ∈ sv l, one v := by
  intro v h; obtain ⟨x, _, rfl⟩ := List.mem_map.1 h; trivial
theorem sv_append (a b : List ByteArray) : sv (a ++ b) = sv a ++ sv b := by simp [sv]
theorem sv_length (a : List ByteArray) : (sv a).length = a.length := by simp [sv]
theorem Rd.lens {w : World} {s : Sl} {l : List ByteArray} (h : Rd w 1 s (sv l)) : l.length = s.n := by have := h.len1; rw [sv_length] at this; exact this
/-- rows in a row -/
def slV (l : List Sl) : List Value := l.map fun c => .slice c.a c.n c.c
def sumN (l : List Sl) : Nat := (l.map (·.n)).sum
theorem sumN_snoc {l : List Sl} {i : Nat} {c : Sl} (h : l[i]? = some c) : sumN (l.take (i + 1)) = sumN (l.take i) + c.n := by
  unfold sumN; rw [take_snoc h, List.map_append, List.sum_append]; simp
theorem sumN_le {l : List Sl} (i : Nat) : sumN (l.take i) ≤ sumN l := by
  unfold sumN
  conv => rhs; rw [← List.take_append_drop i l, List.map_append, List.sum_append]
  omega
section
variable {w : World}
theorem growS_spec {n : Nat} (hn : n ≤ 8796093022208) :
    Calls Tryd.prog 52 #[.slice none 0 0, .int .i64 (n : Nat)] w fun e w' => ∃ s : Sl, e = .returned (.slice s.a s.n s.c) ∧ s.n = 0 ∧ Own w' w.heap.size 9 1 s [] ∧ Ext w w' := by
  refine vc_52 ⟨none, 0, 0⟩ _ _ _ ?_
  simp only [eq_self, false_or, or_false, true_and, and_true, decide_eq_true_eq, decide_eq_false_iff_not, gd_st, gd_sf, exists_eq_left', exists_eq_left, Option.some.injEq, Sl.eta, Nat.reduceLeDiff, Int.reduceLE, Int.reduceLT, Int.reduceEq, Int.reduceNe, Nat.reduceMul, Nat.reduceAdd, Nat.reduceSub, Int.toNat_natCast, beq_iff_eq, bne_iff_ne, beq_eq_false_iff_ne, bne_eq_false_iff_eq, pick_and, pick_or, Bool.and_eq_true, Bool.or_eq_true, Bool.and_eq_false_iff, Bool.or_eq_false_iff, ne_eq, not_false_eq_true, Bool.not_eq_true', Bool.not_eq_false', reduceCtorEq, Nat.le_refl, Nat.zero_mul, Nat.mul_one, Nat.zero_add, Int.reduceToNat, ones, one, add_mk, Decidable.not_not, cond_true, cond_false, true_implies, false_implies, implies_true, Bool.not_true, Bool.not_false]
  refine ⟨fun w' => w' = w, ⟨fun h => by omega, fun _ => rfl⟩, ?_⟩
  rintro _ w1 rfl
  have e2 : IntKind.i64.wrap ((n : Int) - IntKind.i64.wrap (((0 : Nat) : Int) - ((0 : Nat) : Int))) = (n : Int) := by
    rw [show IntKind.i64.wrap (((0 : Nat) : Int) - ((0 : Nat) : Int)) = 0 by decide, wrap_i64 (by omega) (by omega)]; omega
  rw [e2]
  refine ⟨fun hpos => ?_, fun hneg => ⟨⟨none, 0, 0⟩, rfl, rfl, Own.nil _ _ _ _, Ext.refl w1⟩⟩
  obtain ⟨c, w2, hr, o2, x2⟩ := app_zeros (τ := tab) (P := Tryd.prog) (t := 52) (tn := 3) (ty := 52) (B := w1.heap.size) tab_ok (by rfl) (by rfl) (by rfl) (w := w1) (n := n) (by omega) (by omega) (by omega) (Nat.le_refl _)
  refine ⟨by omega, by omega, ⟨some ⟨w1.heap.size, 0, none⟩, n, c⟩, w2, hr, by omega, by omega, ⟨some ⟨w1.heap.size, 0, none⟩, 0, c⟩, ?_, rfl, o2, x2⟩
  dsimp only
  have hcut := cut0 c (some ⟨w1.heap.size, 0, none⟩)
  rw [hcut]
theorem growI_spec {n : Nat} (hn : n ≤ 17592186044400) :
    Calls Tryd.prog 56 #[.slice none 0 0, .int .i64 (n : Nat)] w fun e w' => ∃ s : Sl, e = .returned (.slice s.a s.n s.c) ∧ s.n = 0 ∧ Own w' w.heap.size 3 1 s [] ∧ Ext w w' := by
  refine vc_56 ⟨none, 0, 0⟩ _ _ _ ?_
  simp only [eq_self, false_or, or_false, true_and, and_true, decide_eq_true_eq, decide_eq_false_iff_not, gd_st, gd_sf, exists_eq_left', exists_eq_left, Option.some.injEq, Sl.eta, Nat.reduceLeDiff, Int.reduceLE, Int.reduceLT, Int.reduceEq, Int.reduceNe, Nat.reduceMul, Nat.reduceAdd, Nat.reduceSub, Int.toNat_natCast, beq_iff_eq, bne_iff_ne, beq_eq_false_iff_ne, bne_eq_false_iff_eq, pick_and, pick_or, Bool.and_eq_true, Bool.or_eq_true, Bool.and_eq_false_iff, Bool.or_eq_false_iff, ne_eq, not_false_eq_true, Bool.not_eq_true', Bool.not_eq_false', reduceCtorEq, Nat.le_refl, Nat.zero_mul, Nat.mul_one, Nat.zero_add, Int.reduceToNat, ones, one, add_mk, Decidable.not_not, cond_true, cond_false, true_implies, false_implies, implies_true, Bool.not_true, Bool.not_false]
  refine ⟨fun w' => w' = w, ⟨fun h => by omega, fun _ => rfl⟩, ?_⟩
  rintro _ w1 rfl
  have e2 : IntKind.i64.wrap ((n : Int) - IntKind.i64.wrap (((0 : Nat) : Int) - ((0 : Nat) : Int))) = (n : Int) := by
    rw [show IntKind.i64.wrap (((0 : Nat) : Int) - ((0 : Nat) : Int)) = 0 by decide, wrap_i64 (by omega) (by omega)]; omega
  rw [e2]
  refine ⟨fun hpos => ?_, fun hneg => ⟨⟨none, 0, 0⟩, rfl, rfl, Own.nil _ _ _ _, Ext.refl w1⟩⟩
  obtain ⟨c, w2, hr, o2, x2⟩ := app_zeros (τ := tab) (P := Tryd.prog) (t := 22) (tn := 3) (ty := 22) (B := w1.heap.size) tab_ok (by rfl) (by rfl) (by rfl) (w := w1) (n := n) (by omega) (by omega) (by omega) (Nat.le_refl _)
  refine ⟨by omega, by omega, ⟨some ⟨w1.heap.size, 0, none⟩, n, c⟩, w2, hr, by omega, by omega, ⟨some ⟨w1.heap.size, 0, none⟩, 0, c⟩, ?_, rfl, o2, x2⟩
  dsimp only
  have hcut := cut0 c (some ⟨w1.heap.size, 0, none⟩)
  rw [hcut]
theorem concatS_spec {s : Sl} {l : List Sl} {Vs : List (List Value)} (hs : Rd w 1 s (slV l)) (hV : ∀ (k : Nat) (c : Sl), l[k]? = some c → ∃ vs, Vs[k]? = some vs ∧ Rd w 1 c vs ∧ ∀ v ∈ vs, one v) (hl : Vs.length = l.length) (hm : sumN l ≤ 8796093022208) (hk : l.length ≤ 1000000) :
    Calls Tryd.prog 34 #[.slice s.a s.n s.c] w fun e w' => ∃ r : Sl, e = .returned (.slice r.a r.n r.c) ∧ Own w' w.heap.size 9 1 r Vs.flatten ∧ Ext w w' := by
  refine vc_34 _ _ _ ?_
  have hsn := hs.len1
  unfold slV at hsn
  rw [List.length_map] at hsn
  have at_ : ∀ {w' : World} (i : Nat), Ext w w' → i < s.n → ∃ p c, s.a = some p ∧ l[i]? = some c ∧ w'.cell? (p.add i) = some (.slice c.a c.n c.c) := by
    intro w' i x hi
    obtain ⟨p, v, hp, hv, hc⟩ := (hs.ext x).at1 i hi
    unfold slV at hv
    rw [List.getElem?_map] at hv
    obtain ⟨c, hc', rfl⟩ := Option.map_eq_some_iff.1 hv
    exact ⟨p, c, hp, hc', hc⟩
  simp only [eq_self, false_or, or_false, true_and, and_true, decide_eq_true_eq, decide_eq_false_iff_not, gd_st, gd_sf, exists_eq_left', exists_eq_left, Option.some.injEq, Sl.eta, Nat.reduceLeDiff, Int.reduceLE, Int.reduceLT, Int.reduceEq, Int.reduceNe, Nat.reduceMul, Nat.reduceAdd, Nat.reduceSub, Int.toNat_natCast, beq_iff_eq, bne_iff_ne, beq_eq_false_iff_ne, bne_eq_false_iff_eq, pick_and, pick_or, Bool.and_eq_true, Bool.or_eq_true, Bool.and_eq_false_iff, Bool.or_eq_false_iff, ne_eq, not_false_eq_true, Bool.not_eq_true', Bool.not_eq_false', reduceCtorEq, Nat.le_refl, Nat.zero_mul, Nat.mul_one, Nat.zero_add, Int.reduceToNat, ones, one, add_mk, Decidable.not_not, cond_true, cond_false, true_implies, false_implies, implies_true, Bool.not_true, Bool.not_false]
  refine ⟨fun n m w' => ∃ i : Nat, m = i ∧ n = ((sumN (l.take i) : Nat) : Int) ∧ i ≤ l.length ∧ w' = w, fun _ m _ => (l.length - m).toNat, ⟨0, rfl, rfl, Nat.zero_le _, rfl⟩, ?_⟩
  rintro _ n m w1 ⟨i, rfl, rfl, hi, rfl⟩
  refine ⟨fun hlt => ?_, fun hge => ?_⟩
  · obtain ⟨p, c, hp, hc, hcell⟩ := at_ i (Ext.refl w1) (by omega)
    have hsum := sumN_snoc hc
    have hle := sumN_le (l := l) (i + 1)
    have e1 : IntKind.i64.wrap (((sumN (l.take i) : Nat) : Int) + (c.n : Int)) = ((sumN (l.take (i + 1)) : Nat) : Int) := by rw [wrap_i64 (by omega) (by omega)]; omega
    have ei : IntKind.i64.wrap ((i : Int) + 1) = ((i + 1 : Nat) : Int) := by rw [wrap_i64 (by omega) (by omega)]; omega
    refine ⟨by omega, by omega, p, hp, c, by rw [Int.toNat_natCast]; exact hcell, ?_⟩
    rw [e1, ei]
    exact ⟨fun h => by omega, fun _ => ⟨⟨i + 1, rfl, rfl, by omega, rfl⟩, by dsimp only; omega⟩⟩
  have hil : l.take i = l := List.take_of_length_le (by omega)
  rw [hil]
  refine ⟨(growS_spec (w := w1) (n := sumN l) (by omega)).mono ?_⟩
  rintro e w2 ⟨r, rfl, hrn, o2, x2⟩
  refine ⟨r, rfl, fun r m w' => ∃ i : Nat, m = i ∧ i ≤ l.length ∧ r.n = sumN (l.take i) ∧ Own w' w1.heap.size 9 1 r (Vs.take i).flatten ∧ Ext w1 w', fun _ m _ => (l.length - m).toNat, ⟨0, rfl, Nat.zero_le _, hrn, o2, x2⟩, ?_⟩
  rintro _ r m w3 ⟨i, rfl, hi, hrn3, o3, x3⟩
  refine ⟨fun hlt => ?_, fun hge => ⟨r, rfl, by rw [List.take_of_length_le (by omega)] at o3; exact o3, x3⟩⟩
  obtain ⟨p, c, hp, hc, hcell⟩ := at_ i x3 (by omega)
  obtain ⟨vs, hvs, rdc, hone⟩ := hV i c hc
  have hsum := sumN_snoc hc
  have hle := sumN_le (l := l) (i + 1)
  have ei : IntKind.i64.wrap ((i : Int) + 1) = ((i + 1 : Nat) : Int) := by rw [wrap_i64 (by omega) (by omega)]; omega
  obtain ⟨r', w4, hr, hrn', o4, u4, _⟩ := o3.append (t := 52) (ty := 52) tab_ok (by rfl) (by rfl) (by decide) (rdc.ext x3) hone (by omega) (by omega) x3.size
  refine ⟨by omega, by omega, p, hp, c, by rw [Int.toNat_natCast]; exact hcell, r', w4, hr, ?_⟩
  rw [ei]
  refine ⟨⟨i + 1, rfl, by omega, by omega, ?_, x3.fresh u4 (by rintro j ⟨q, hq, rfl⟩; exact (o3.base q hq).1)⟩, by dsimp only; omega⟩
  rw [take_snoc hvs, List.flatten_append, List.flatten_singleton]
  exact o4
theorem concatI_spec {s : Sl} {l : List Sl} {Vs : List (List Value)} (hs : Rd w 1 s (slV l)) (hV : ∀ (k : Nat) (c : Sl), l[k]? = some c → ∃ vs, Vs[k]? = some vs ∧ Rd w 1 c vs ∧ ∀ v ∈ vs, one v) (hl : Vs.length = l.length) (hm : sumN l ≤ 17592186044400) (hk : l.length ≤ 1000000) :
    Calls Tryd.prog 42 #[.slice s.a s.n s.c] w fun e w' => ∃ r : Sl, e = .returned (.slice r.a r.n r.c) ∧ Own w' w.heap.size 3 1 r Vs.flatten ∧ Ext w w' := by
  refine vc_42 _ _ _ ?_
  have hsn := hs.len1
  unfold slV at hsn
  rw [List.length_map] at hsn
  have at_ : ∀ {w' : World} (i : Nat), Ext w w' → i < s.n → ∃ p c, s.a = some p ∧ l[i]? = some c ∧ w'.cell? (p.add i) = some (.slice c.a c.n c.c) := by
    intro w' i x hi
    obtain ⟨p, v, hp, hv, hc⟩ := (hs.ext x).at1 i hi
    unfold slV at hv
    rw [List.getElem?_map] at hv
    obtain ⟨c, hc', rfl⟩ := Option.map_eq_some_iff.1 hv
    exact ⟨p, c, hp, hc', hc⟩
  simp only [eq_self, false_or, or_false, true_and, and_true, decide_eq_true_eq, decide_eq_false_iff_not, gd_st, gd_sf, exists_eq_left', exists_eq_left, Option.some.injEq, Sl.eta, Nat.reduceLeDiff, Int.reduceLE, Int.reduceLT, Int.reduceEq, Int.reduceNe, Nat.reduceMul, Nat.reduceAdd, Nat.reduceSub, Int.toNat_natCast, beq_iff_eq, bne_iff_ne, beq_eq_false_iff_ne, bne_eq_false_iff_eq, pick_and, pick_or, Bool.and_eq_true, Bool.or_eq_true, Bool.and_eq_false_iff, Bool.or_eq_false_iff, ne_eq, not_false_eq_true, Bool.not_eq_true', Bool.not_eq_false', reduceCtorEq, Nat.le_refl, Nat.zero_mul, Nat.mul_one, Nat.zero_add, Int.reduceToNat, ones, one, add_mk, Decidable.not_not, cond_true, cond_false, true_implies, false_implies, implies_true, Bool.not_true, Bool.not_false]
  refine ⟨fun n m w' => ∃ i : Nat, m = i ∧ n = ((sumN (l.take i) : Nat) : Int) ∧ i ≤ l.length ∧ w' = w, fun _ m _ => (l.length - m).toNat, ⟨0, rfl, rfl, Nat.zero_le _, rfl⟩, ?_⟩
  rintro _ n m w1 ⟨i, rfl, rfl, hi, rfl⟩
  refine ⟨fun hlt => ?_, fun hge => ?_⟩
  · obtain ⟨p, c, hp, hc, hcell⟩ := at_ i (Ext.refl w1) (by omega)
    have hsum := sumN_snoc hc
    have hle := sumN_le (l := l) (i + 1)
    have e1 : IntKind.i64.wrap (((sumN (l.take i) : Nat) : Int) + (c.n : Int)) = ((sumN (l.take (i + 1)) : Nat) : Int) := by rw [wrap_i64 (by omega) (by omega)]; omega
    have ei : IntKind.i64.wrap ((i : Int) + 1) = ((i + 1 : Nat) : Int) := by rw [wrap_i64 (by omega) (by omega)]; omega
    refine ⟨by omega, by omega, p, hp, c, by rw [Int.toNat_natCast]; exact hcell, ?_⟩
    rw [e1, ei]
    exact ⟨fun h => by omega, fun _ => ⟨⟨i + 1, rfl, rfl, by omega, rfl⟩, by dsimp only; omega⟩⟩
  have hil : l.take i = l := List.take_of_length_le (by omega)
  rw [hil]
  refine ⟨(growI_spec (w := w1) (n := sumN l) (by omega)).mono ?_⟩
  rintro e w2 ⟨r, rfl, hrn, o2, x2⟩
  refine ⟨r, rfl, fun r m w' => ∃ i : Nat, m = i ∧ i ≤ l.length ∧ r.n = sumN (l.take i) ∧ Own w' w1.heap.size 3 1 r (Vs.take i).flatten ∧ Ext w1 w', fun _ m _ => (l.length - m).toNat, ⟨0, rfl, Nat.zero_le _, hrn, o2, x2⟩, ?_⟩
  rintro _ r m w3 ⟨i, rfl, hi, hrn3, o3, x3⟩
  refine ⟨fun hlt => ?_, fun hge => ⟨r, rfl, by rw [List.take_of_length_le (by omega)] at o3; exact o3, x3⟩⟩
  obtain ⟨p, c, hp, hc, hcell⟩ := at_ i x3 (by omega)
  obtain ⟨vs, hvs, rdc, hone⟩ := hV i c hc
  have hsum := sumN_snoc hc
  have hle := sumN_le (l := l) (i + 1)
  have ei : IntKind.i64.wrap ((i : Int) + 1) = ((i + 1 : Nat) : Int) := by rw [wrap_i64 (by omega) (by omega)]; omega
  obtain ⟨r', w4, hr, hrn', o4, u4, _⟩ := o3.append (t := 22) (ty := 22) tab_ok (by rfl) (by rfl) (by decide) (rdc.ext x3) hone (by omega) (by omega) x3.size
  refine ⟨by omega, by omega, p, hp, c, by rw [Int.toNat_natCast]; exact hcell, r', w4, hr, ?_⟩
  rw [ei]
  refine ⟨⟨i + 1, rfl, by omega, by omega, ?_, x3.fresh u4 (by rintro j ⟨q, hq, rfl⟩; exact (o3.base q hq).1)⟩, by dsimp only; omega⟩
  rw [take_snoc hvs, List.flatten_append, List.flatten_singleton]
  exact o4
end
end Go.Proofs.YtfppdkkbekkhbaaDoor.V
