/-
  Copies, lists compared, the caller's code.
-/
import Derived.Test.YtilaeefmfiihlaaFl2
namespace Go.Proofs.Ytilaeefmfiihlaa.V
open Go Go.RowKit
set_option linter.unusedVariables false
set_option linter.unusedSimpArgs false
set_option maxRecDepth 100000

def bbv (l : List Bool) : List Value := l.map fun b => Value.bool b
@[simp] theorem bbv_length (l : List Bool) : (bbv l).length = l.length := by simp [bbv]
theorem bbv_ones (l : List Bool) : ∀ v ∈ bbv l, one v := by
  intro v hv
  unfold bbv at hv
  obtain ⟨b, _, rfl⟩ := List.mem_map.1 hv
  trivial
theorem rbF {p : Prop} [Decidable p] (h : ¬ p) : Ending.returned (.bool (decide p)) = Ending.returned (.bool false) := by rw [decide_eq_false h]
theorem rbT {p : Prop} [Decidable p] (h : p) : Ending.returned (.bool (decide p)) = Ending.returned (.bool true) := by rw [decide_eq_true h]
theorem take_snoc {α : Type} {l : List α} {k : Nat} {y : α} (h : l[k]? = some y) : l.take (k + 1) = l.take k ++ [y] := by
  rw [List.take_add_one, h]; rfl
def m7 : Ins := ⟨-7, -7, -7⟩
section
variable {w w' : World} {B : Nat} {s code a b : Sl} {c : List Ins} {l l' : List Int}
theorem cut_spec (h : Rd w 3 code (cdV c)) (hc : code.n ≤ code.c) :
    Calls Try.prog 12 #[.slice code.a code.n code.c] w fun e w' => ∃ s : Sl, e = .returned (.slice s.a s.n s.c) ∧ Rd w 3 s (cdV (c.take 40)) ∧ s.n ≤ s.c ∧ s.a = code.a ∧ w' = w := by
  refine vc_12 _ _ _ ?_
  have hn := h.lenc
  simp only [eq_self, false_or, or_false, true_and, and_true, decide_eq_true_eq, decide_eq_false_iff_not, gd_st, gd_sf, exists_eq_left', exists_eq_left, Option.some.injEq, Sl.eta, Nat.reduceLeDiff, Int.reduceLE, Int.reduceLT, Int.reduceEq, Int.reduceNe, Nat.reduceMul, Nat.reduceAdd, Nat.reduceSub, Int.toNat_natCast, beq_iff_eq, bne_iff_ne, beq_eq_false_iff_ne, bne_eq_false_iff_eq, pick_and, pick_or, Bool.and_eq_true, Bool.or_eq_true, Bool.and_eq_false_iff, Bool.or_eq_false_iff, ne_eq, not_false_eq_true, Bool.not_eq_true', Bool.not_eq_false', reduceCtorEq, Nat.le_refl, Nat.zero_mul, Nat.mul_one, Nat.zero_add, Int.reduceToNat, ones, one, add_mk, Decidable.not_not, cond_true, cond_false, true_implies, false_implies, implies_true, Bool.not_true, Bool.not_false]
  rw [cut0]
  refine ⟨fun h40 => ⟨by omega, ⟨code.a, 40, code.c⟩, rfl, ?_, by dsimp only; omega, rfl⟩, fun h40 => ⟨code, rfl, ?_, hc, rfl⟩⟩
  · refine ⟨by rw [cdV_len, List.length_take]; dsimp only; omega, fun _ => ?_⟩
    obtain ⟨p, hp, hcell⟩ := h.2 (by omega)
    refine ⟨p, hp, fun j v hj => hcell j v ?_⟩
    rw [← List.take_append_drop 40 c, cdV_append]
    rw [List.getElem?_append_left (List.getElem?_eq_some_iff.1 hj).1]
    exact hj
  · rw [List.take_of_length_le (by omega)]; exact h
theorem lent_spec (h : Rd w 3 code (cdV c)) (hm : c.length ≤ 1000) :
    Calls Try.prog 17 #[.slice code.a code.n code.c] w fun e w' => ∃ (oa : Option Addr) (oc : Nat), e = .returned (.slice oa code.n oc) ∧ Own w' w.heap.size 47 3 ⟨oa, code.n + 1, oc⟩ (cdV (c ++ [m7])) ∧ Ext w w' := by
  refine vc_17 _ _ _ ?_
  have hn := h.lenc
  simp only [eq_self, false_or, or_false, true_and, and_true, decide_eq_true_eq, decide_eq_false_iff_not, gd_st, gd_sf, exists_eq_left', exists_eq_left, Option.some.injEq, Sl.eta, Nat.reduceLeDiff, Int.reduceLE, Int.reduceLT, Int.reduceEq, Int.reduceNe, Nat.reduceMul, Nat.reduceAdd, Nat.reduceSub, Int.toNat_natCast, beq_iff_eq, bne_iff_ne, beq_eq_false_iff_ne, bne_eq_false_iff_eq, pick_and, pick_or, Bool.and_eq_true, Bool.or_eq_true, Bool.and_eq_false_iff, Bool.or_eq_false_iff, ne_eq, not_false_eq_true, Bool.not_eq_true', Bool.not_eq_false', reduceCtorEq, Nat.le_refl, Nat.zero_mul, Nat.mul_one, Nat.zero_add, Int.reduceToNat, ones, one, add_mk, Decidable.not_not, cond_true, cond_false, true_implies, false_implies, implies_true, Bool.not_true, Bool.not_false]
  intro w1 n1
  have z1 := n1.size
  have o1 : Own w1 w.heap.size 47 3 ⟨some ⟨w.heap.size, 0, none⟩, 0, 0⟩ (cdV []) := Own.lit (z := 3) (n := 0) (cs := []) n1 (Nat.le_refl _) rfl (by decide)
  obtain ⟨s2, w2, hr2, hn2, o2, u2, _⟩ := o1.append (t := 22) (ty := 22) tab_ok (by rfl) (by rfl) (by decide) (h.ext n1.ext) (cdV_ones _) (by dsimp only; omega) (by dsimp only; omega) (by omega)
  have x02 : Ext w w2 := n1.ext.fresh u2 (by rintro i ⟨q, hq, rfl⟩; exact (o1.base q hq).1)
  have z2 := x02.size
  refine ⟨s2, w2, hr2, fun w3 n3 => ?_⟩
  have z3 := n3.size
  have rd : Rd w3 3 ⟨some ⟨w2.heap.size, 0, none⟩, 1, 1⟩ (cdV [m7]) := (Blk.new n3).rd (z := 3) (o := 0) (n := 1) (c := 1) (by simp)
  obtain ⟨s4, w4, hr4, hn4, o4, u4, _⟩ := (o2.ext n3.ext).append (t := 22) (ty := 22) tab_ok (by rfl) (by rfl) (by decide) rd (cdV_ones _) (by rw [hn2]; dsimp only; omega) (by rw [hn2]; dsimp only; omega) (by omega)
  have hcap := o4.cap
  have hn4' : s4.n = code.n + 1 := by rw [hn4, hn2]; dsimp only; omega
  simp only [cut0]
  refine ⟨s4, w4, hr4, by omega, by omega, s4.a, s4.c, rfl, ?_, (x02.trans n3.ext).fresh u4 (by rintro i ⟨q, hq, rfl⟩; exact (o2.base q hq).1)⟩
  have : (⟨s4.a, code.n + 1, s4.c⟩ : Sl) = s4 := by rw [← hn4']
  rw [this, cdV_append]
  exact o4
theorem kept_spec {oa : Option Addr} {oc : Nat} (h : Own w B 47 3 ⟨oa, code.n + 1, oc⟩ (cdV (c ++ [m7]))) (hc : Rd w 3 code (cdV c)) (hoff : 0 < code.n → ∀ p q, oa = some p → code.a = some q → q.block ≠ p.block) (hm : c.length ≤ 1000) :
    Calls Try.prog 21 #[.slice oa code.n oc, .slice code.a code.n code.c] w fun e w' => e = .returned (.bool true) ∧ Upd (fun k => ∃ p, oa = some p ∧ k = p.block) w w' := by
  refine vc_21 ⟨oa, code.n, oc⟩ _ _ _ ?_
  have hn := hc.lenc
  have e1 : IntKind.i64.wrap ((code.n : Int) + 1) = ((code.n + 1 : Nat) : Int) := by rw [wrap_i64 (by omega) (by omega)]; omega
  have hcap := h.cap
  dsimp only at hcap
  simp only [eq_self, false_or, or_false, true_and, and_true, decide_eq_true_eq, decide_eq_false_iff_not, gd_st, gd_sf, exists_eq_left', exists_eq_left, Option.some.injEq, Sl.eta, Nat.reduceLeDiff, Int.reduceLE, Int.reduceLT, Int.reduceEq, Int.reduceNe, Nat.reduceMul, Nat.reduceAdd, Nat.reduceSub, Int.toNat_natCast, beq_iff_eq, bne_iff_ne, beq_eq_false_iff_ne, bne_eq_false_iff_eq, pick_and, pick_or, Bool.and_eq_true, Bool.or_eq_true, Bool.and_eq_false_iff, Bool.or_eq_false_iff, ne_eq, not_false_eq_true, Bool.not_eq_true', Bool.not_eq_false', reduceCtorEq, Nat.le_refl, Nat.zero_mul, Nat.mul_one, Nat.zero_add, Int.reduceToNat, ones, one, add_mk, Decidable.not_not, cond_true, cond_false, true_implies, false_implies, implies_true, Bool.not_true, Bool.not_false]
  rw [e1, cut0]
  obtain ⟨p, hp, hcell⟩ := h.rd.ins (i := code.n) (x := m7) (by rw [hn, List.getElem?_append_right (Nat.le_refl _)]; simp)
  refine ⟨by omega, by omega, by omega, by omega, p, hp, _, _, _, rfl, hcell, fun hne => absurd hne (by decide), fun _ => ?_⟩
  dsimp only at hp
  have u0 : Upd (fun k => ∃ p, oa = some p ∧ k = p.block) w w := Upd.refl _ _
  refine ⟨fun n w' => ∃ (k : Nat) (xs : List Value), n = (k : Nat) ∧ k ≤ code.n ∧ Own w' B 47 3 ⟨oa, code.n + 1, oc⟩ xs ∧ (∀ j, k * 3 ≤ j → xs[j]? = (cdV (c ++ [m7]))[j]?) ∧ Upd (fun k => ∃ p, oa = some p ∧ k = p.block) w w', fun n _ => (code.n - n).toNat, ⟨0, _, rfl, Nat.zero_le _, h, fun _ _ => rfl, u0⟩, ?_⟩
  rintro _ n w2 ⟨k, xs, rfl, hk, o2, hxs, u2⟩
  have ek : IntKind.i64.wrap ((k : Int) + 1) = ((k + 1 : Nat) : Int) := by rw [wrap_i64 (by omega) (by omega)]; omega
  rw [ek]
  refine ⟨fun hlt => ?_, fun _ => u2⟩
  obtain ⟨x, hx⟩ : ∃ x, c[k]? = some x := ⟨_, List.getElem?_eq_getElem (by omega)⟩
  obtain ⟨q, hq, hq0, hq1, hq2⟩ := hc.ins hx
  have offq : ¬ ∃ p, oa = some p ∧ q.block = p.block := by rintro ⟨p', hp', e⟩; exact hoff (by omega) p' q hp' hq e
  have keepq : ∀ {i j : Nat} {v : Value}, w.cell? ((q.add i).add j) = some v → w2.cell? ((q.add i).add j) = some v := fun hv => u2.cell hv (by rw [block_add, block_add]; exact offq)
  obtain ⟨p', hp', hcl⟩ := o2.rd.2 (by dsimp only; omega)
  dsimp only at hp'
  rw [hp] at hp'; injection hp' with hp'; subst hp'
  have hins : ∀ j, j < 3 → xs[k * 3 + j]? = (insV x)[j]? := fun j hj => by
    rw [hxs _ (by omega)]
    exact cdV_get (by rw [List.getElem?_append_left (by omega)]; exact hx) j hj
  refine ⟨by omega, hlt, p, hp, _, _, _, rfl, ⟨by rw [Int.toNat_natCast, add_add]; exact hcl _ _ (hins 0 (by decide)), by rw [Int.toNat_natCast, add_add]; exact hcl _ _ (hins 1 (by decide)), by rw [Int.toNat_natCast, add_add]; exact hcl _ _ (hins 2 (by decide))⟩, by omega, by omega, q, hq, _, _, _, rfl, ⟨by rw [Int.toNat_natCast]; exact keepq hq0, by rw [Int.toNat_natCast]; exact keepq hq1, by rw [Int.toNat_natCast]; exact keepq hq2⟩, fun w3 q3 => ⟨fun hne => ?_, fun _ => ⟨by omega, hlt, p, hp, ?_⟩⟩⟩
  · rcases hne with (h | h) | h <;> exact absurd rfl h
  have o3 := o2.ext q3.ext
  obtain ⟨g, cs, ha, hB, hb, hnn, hcc, hcl', ht⟩ := o3.blk (by dsimp only; rw [hp]; simp)
  dsimp only at ha hnn hcc hcl' ht
  rw [hp] at ha; injection ha with ha; subst ha
  rw [Int.toNat_natCast, add_mk, Nat.zero_add]
  refine ⟨hb.canSetN _ 3 (by omega), fun w4 s4 => ?_⟩
  have hb4 := s4.blk hb
  refine ⟨⟨k + 1, _, rfl, by omega, Own.of_blk (s := ⟨oa, code.n + 1, oc⟩) (z := 3) hb4 hB hp hnn hcc (by rw [setsL_len]; exact hcl'), fun j hj => ?_, (u2.trans q3.ext.toS fun _ _ h => ⟨h, h⟩).trans s4.upd fun i _ hn => ⟨hn, fun e => hn ⟨_, hp, e⟩⟩⟩, by dsimp only; omega⟩
  dsimp only
  rw [← hxs j (by omega), ← ht, List.getElem?_take, List.getElem?_take]
  split
  · rw [setsL_out _ _ _ _ (.inr (by simp; omega))]
  · rfl
theorem equal_spec (ha : Rd w 1 a (iv l)) (hb : Rd w 1 b (iv l')) (hm : l.length ≤ 1000000) :
    Calls Try.prog 19 #[.slice a.a a.n a.c, .slice b.a b.n b.c] w fun e w' => e = .returned (.bool (decide (l = l'))) ∧ Ext w w' := by
  refine vc_19 _ _ _ _ ?_
  have h1 := ha.leni; have h2 := hb.leni
  simp only [eq_self, false_or, or_false, true_and, and_true, decide_eq_true_eq, decide_eq_false_iff_not, gd_st, gd_sf, exists_eq_left', exists_eq_left, Option.some.injEq, Sl.eta, Nat.reduceLeDiff, Int.reduceLE, Int.reduceLT, Int.reduceEq, Int.reduceNe, Nat.reduceMul, Nat.reduceAdd, Nat.reduceSub, Int.toNat_natCast, beq_iff_eq, bne_iff_ne, beq_eq_false_iff_ne, bne_eq_false_iff_eq, pick_and, pick_or, Bool.and_eq_true, Bool.or_eq_true, Bool.and_eq_false_iff, Bool.or_eq_false_iff, ne_eq, not_false_eq_true, Bool.not_eq_true', Bool.not_eq_false', reduceCtorEq, Nat.le_refl, Nat.zero_mul, Nat.mul_one, Nat.zero_add, Int.reduceToNat, ones, one, add_mk, Decidable.not_not, cond_true, cond_false, true_implies, false_implies, implies_true, Bool.not_true, Bool.not_false]
  refine ⟨fun hne => ⟨?_, Ext.refl _⟩, fun he => ?_⟩
  · refine (rbF ?_).symm; rintro rfl; omega
  refine ⟨fun n w' => ∃ k : Nat, n = (k : Nat) ∧ k ≤ l.length ∧ l.take k = l'.take k ∧ Ext w w', fun n _ => (l.length - n).toNat, ⟨0, rfl, Nat.zero_le _, rfl, Ext.refl _⟩, ?_⟩
  rintro _ n w1 ⟨k, rfl, hk, ht, x1⟩
  have ek : IntKind.i64.wrap ((k : Int) + 1) = ((k + 1 : Nat) : Int) := by rw [wrap_i64 (by omega) (by omega)]; omega
  rw [ek]
  refine ⟨fun hlt => ?_, fun hge => ⟨?_, x1⟩⟩
  · obtain ⟨p, y, hp, hy, hc⟩ := (ha.ext x1).intl k (by omega)
    obtain ⟨q, z, hq, hz, hd⟩ := (hb.ext x1).intl k (by omega)
    rw [Nat.mul_one] at hc hd
    refine ⟨by omega, hlt, p, hp, y, by rw [Int.toNat_natCast]; exact hc, by omega, by omega, q, hq, z, by rw [Int.toNat_natCast]; exact hd, fun w2 q2 => ⟨fun hne => ⟨?_, x1.trans q2.ext⟩, fun e => ⟨⟨k + 1, rfl, by omega, ?_, x1.trans q2.ext⟩, by dsimp only; omega⟩⟩⟩
    · refine (rbF ?_).symm; rintro rfl; rw [hy] at hz; injection hz with hz; exact hne hz
    · rw [take_snoc hy, take_snoc hz, ht, e]
  · refine (rbT ?_).symm
    rw [List.take_of_length_le (by omega), List.take_of_length_le (by omega)] at ht
    exact ht
theorem clone_spec (h : Rd w 1 s (iv l)) (h0 : s.a = none → s.n = 0) (hm : l.length ≤ 1000) :
    Calls Try.prog 31 #[.slice s.a s.n s.c] w fun e w' => ∃ s' : Sl, e = .returned (.slice s'.a s'.n s'.c) ∧ Own w' w.heap.size 3 1 s' (iv l) ∧ Ext w w' := by
  refine vc_31 _ _ _ ?_
  have hn := h.leni
  simp only [eq_self, false_or, or_false, true_and, and_true, decide_eq_true_eq, decide_eq_false_iff_not, gd_st, gd_sf, exists_eq_left', exists_eq_left, Option.some.injEq, Sl.eta, Nat.reduceLeDiff, Int.reduceLE, Int.reduceLT, Int.reduceEq, Int.reduceNe, Nat.reduceMul, Nat.reduceAdd, Nat.reduceSub, Int.toNat_natCast, beq_iff_eq, bne_iff_ne, beq_eq_false_iff_ne, bne_eq_false_iff_eq, pick_and, pick_or, Bool.and_eq_true, Bool.or_eq_true, Bool.and_eq_false_iff, Bool.or_eq_false_iff, ne_eq, not_false_eq_true, Bool.not_eq_true', Bool.not_eq_false', reduceCtorEq, Nat.le_refl, Nat.zero_mul, Nat.mul_one, Nat.zero_add, Int.reduceToNat, ones, one, add_mk, Decidable.not_not, cond_true, cond_false, true_implies, false_implies, implies_true, Bool.not_true, Bool.not_false]
  refine ⟨fun hs => ?_, fun hs w1 n1 => ?_⟩
  · have : l = [] := List.eq_nil_of_length_eq_zero (by rw [hn]; exact h0 (by simpa using hs))
    subst this
    exact ⟨⟨none, 0, 0⟩, rfl, Own.nil _ _ _ _, Ext.refl _⟩
  · have z1 := n1.size
    have o1 : Own w1 w.heap.size 3 1 ⟨some ⟨w.heap.size, 0, none⟩, 0, 0⟩ (iv []) := Own.lit (z := 1) (n := 0) (cs := []) n1 (Nat.le_refl _) rfl (by decide)
    obtain ⟨s2, w2, hr2, hn2, o2, u2, _⟩ := o1.append (t := 30) (ty := 30) tab_ok (by rfl) (by rfl) (by decide) (h.ext n1.ext) (iv_ones _) (by dsimp only; omega) (by dsimp only; omega) (by omega)
    exact ⟨s2, w2, hr2, s2, rfl, o2, n1.ext.fresh u2 (by rintro i ⟨q, hq, rfl⟩; exact (o1.base q hq).1)⟩
theorem cloneb_spec {lb : List Bool} (h : Rd w 1 s (bbv lb)) (h0 : s.a = none → s.n = 0) (hm : lb.length ≤ 1000) :
    Calls Try.prog 29 #[.slice s.a s.n s.c] w fun e w' => ∃ s' : Sl, e = .returned (.slice s'.a s'.n s'.c) ∧ Own w' w.heap.size 4 1 s' (bbv lb) ∧ Ext w w' := by
  refine vc_29 _ _ _ ?_
  have hn : lb.length = s.n := by simpa using h.len1
  simp only [eq_self, false_or, or_false, true_and, and_true, decide_eq_true_eq, decide_eq_false_iff_not, gd_st, gd_sf, exists_eq_left', exists_eq_left, Option.some.injEq, Sl.eta, Nat.reduceLeDiff, Int.reduceLE, Int.reduceLT, Int.reduceEq, Int.reduceNe, Nat.reduceMul, Nat.reduceAdd, Nat.reduceSub, Int.toNat_natCast, beq_iff_eq, bne_iff_ne, beq_eq_false_iff_ne, bne_eq_false_iff_eq, pick_and, pick_or, Bool.and_eq_true, Bool.or_eq_true, Bool.and_eq_false_iff, Bool.or_eq_false_iff, ne_eq, not_false_eq_true, Bool.not_eq_true', Bool.not_eq_false', reduceCtorEq, Nat.le_refl, Nat.zero_mul, Nat.mul_one, Nat.zero_add, Int.reduceToNat, ones, one, add_mk, Decidable.not_not, cond_true, cond_false, true_implies, false_implies, implies_true, Bool.not_true, Bool.not_false]
  refine ⟨fun hs => ?_, fun hs w1 n1 => ?_⟩
  · have : lb = [] := List.eq_nil_of_length_eq_zero (by rw [hn]; exact h0 (by simpa using hs))
    subst this
    exact ⟨⟨none, 0, 0⟩, rfl, Own.nil _ _ _ _, Ext.refl _⟩
  · have z1 := n1.size
    have o1 : Own w1 w.heap.size 4 1 ⟨some ⟨w.heap.size, 0, none⟩, 0, 0⟩ (bbv []) := Own.lit (z := 1) (n := 0) (cs := []) n1 (Nat.le_refl _) rfl (by decide)
    obtain ⟨s2, w2, hr2, hn2, o2, u2, _⟩ := o1.append (t := 27) (ty := 27) tab_ok (by rfl) (by rfl) (by decide) (h.ext n1.ext) (bbv_ones _) (by dsimp only; omega) (by dsimp only; omega) (by omega)
    exact ⟨s2, w2, hr2, s2, rfl, o2, n1.ext.fresh u2 (by rintro i ⟨q, hq, rfl⟩; exact (o1.base q hq).1)⟩
theorem rhas_spec (h : Rd w 1 s (iv l)) (x : Int) (hm : l.length ≤ 1000000) :
    Calls Try.prog 38 #[.slice s.a s.n s.c, .int .i64 x] w fun e w' => e = .returned (.bool (decide (x ∈ l))) ∧ w' = w := by
  refine vc_38 _ _ _ _ ?_
  have hn := h.leni
  simp only [eq_self, false_or, or_false, true_and, and_true, decide_eq_true_eq, decide_eq_false_iff_not, gd_st, gd_sf, exists_eq_left', exists_eq_left, Option.some.injEq, Sl.eta, Nat.reduceLeDiff, Int.reduceLE, Int.reduceLT, Int.reduceEq, Int.reduceNe, Nat.reduceMul, Nat.reduceAdd, Nat.reduceSub, Int.toNat_natCast, beq_iff_eq, bne_iff_ne, beq_eq_false_iff_ne, bne_eq_false_iff_eq, pick_and, pick_or, Bool.and_eq_true, Bool.or_eq_true, Bool.and_eq_false_iff, Bool.or_eq_false_iff, ne_eq, not_false_eq_true, Bool.not_eq_true', Bool.not_eq_false', reduceCtorEq, Nat.le_refl, Nat.zero_mul, Nat.mul_one, Nat.zero_add, Int.reduceToNat, ones, one, add_mk, Decidable.not_not, cond_true, cond_false, true_implies, false_implies, implies_true, Bool.not_true, Bool.not_false]
  refine ⟨fun n w' => ∃ k : Nat, n = (k : Nat) ∧ k ≤ l.length ∧ x ∉ l.take k ∧ w' = w, fun n _ => (l.length - n).toNat, ⟨0, rfl, Nat.zero_le _, by simp, rfl⟩, ?_⟩
  rintro _ n w1 ⟨k, rfl, hk, ht, rfl⟩
  have ek : IntKind.i64.wrap ((k : Int) + 1) = ((k + 1 : Nat) : Int) := by rw [wrap_i64 (by omega) (by omega)]; omega
  rw [ek]
  refine ⟨fun hlt => ?_, fun hge => ⟨?_, rfl⟩⟩
  · obtain ⟨p, y, hp, hy, hc⟩ := h.intl k (by omega)
    rw [Nat.mul_one] at hc
    refine ⟨by omega, hlt, p, hp, y, by rw [Int.toNat_natCast]; exact hc, fun e => ⟨?_, rfl⟩, fun hne => ⟨⟨k + 1, rfl, by omega, ?_, rfl⟩, by dsimp only; omega⟩⟩
    · subst e; refine (rbT ?_).symm; exact List.mem_of_getElem? hy
    · rw [take_snoc hy, List.mem_append, List.mem_singleton]
      rintro (h | h)
      · exact ht h
      · exact hne h.symm
  · rw [List.take_of_length_le (by omega)] at ht
    refine (rbF ?_).symm; exact ht
end
end Go.Proofs.Ytilaeefmfiihlaa.V
