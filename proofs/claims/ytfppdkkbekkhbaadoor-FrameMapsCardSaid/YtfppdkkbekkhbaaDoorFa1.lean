/-
  Lists of slots: equal, less, both; by the program and by the document.
-/
import Derived.Test.YtfppdkkbekkhbaaDoorVcA
import Derived.Test.YtfppdkkbekkhbaaDoorVcB
import Derived.Test.YtfppdkkbekkhbaaDoorVcC
import Derived.Test.YtfppdkkbekkhbaaDoorOwn2
namespace Go.Proofs.YtfppdkkbekkhbaaDoor.V
open Go Go.RowKit
set_option linter.unusedVariables false
set_option linter.unusedSimpArgs false
set_option maxRecDepth 100000

theorem rb {a b : Bool} (h : a = b) : Ending.returned (.bool a) = .returned (.bool b) := by rw [h]
theorem Ext.toS {w w' : World} {S : Nat → Prop} (x : Ext w w') : Upd S w w' := Upd.mono x fun _ _ _ => not_false
theorem Upd.still' {a b c : World} {R : Nat → Prop} (h : Upd R a b) (k : Ext b c) : Upd R a c := h.trans k fun _ _ hn => ⟨hn, not_false⟩
/-- the second knows at most what the first does -/
def LessP (xs ys : List Int) : Prop := xs.length = ys.length ∧ ∀ i, i < xs.length → ys.getD i 0 = -1 ∨ xs.getD i 0 = ys.getD i 0
instance (xs ys : List Int) : Decidable (LessP xs ys) := inferInstanceAs (Decidable (_ ∧ ∀ i, i < _ → _))
def bothL (xs ys : List Int) : List Int := List.zipWith (fun x y => if x = y then x else -1) xs ys
theorem bothL_length {xs ys : List Int} (h : xs.length = ys.length) : (bothL xs ys).length = xs.length := by simp [bothL, h]
theorem bothL_at {xs ys : List Int} {i : Nat} {x y : Int} (hx : xs[i]? = some x) (hy : ys[i]? = some y) : (bothL xs ys)[i]? = some (if x = y then x else -1) := by
  unfold bothL
  rw [List.getElem?_zipWith, hx, hy]
theorem getD_of {l : List Int} {i : Nat} {x : Int} (h : l[i]? = some x) : l.getD i 0 = x := by rw [List.getD_eq_getElem?_getD, h]; rfl
theorem take_snoc {α : Type} {l : List α} {j : Nat} {o : α} (h : l[j]? = some o) : l.take (j + 1) = l.take j ++ [o] := by
  rw [List.take_add_one, h]; rfl
section
variable {w : World} {a b : Sl} {xs ys : List Int}
theorem ext_of {xs ys : List Int} (hl : xs.length = ys.length) (h : ∀ i, i < xs.length → xs[i]? = ys[i]?) : xs = ys := by
  apply List.ext_getElem?
  intro i
  rcases Nat.lt_or_ge i xs.length with hi | hi
  · exact h i hi
  · rw [List.getElem?_eq_none hi, List.getElem?_eq_none (by omega)]
theorem equal_spec (ha : Rd w 1 a (iv xs)) (hb : Rd w 1 b (iv ys)) (hm : xs.length ≤ 1000000000000000) :
    Calls Tryd.prog 37 #[.slice a.a a.n a.c, .slice b.a b.n b.c] w fun e w' => e = .returned (.bool (decide (xs = ys))) ∧ Ext w w' := by
  refine vc_37 _ _ _ _ ?_
  have la := ha.leni; have lb := hb.leni
  simp only [eq_self, false_or, or_false, true_and, and_true, decide_eq_true_eq, decide_eq_false_iff_not, gd_st, gd_sf, exists_eq_left', exists_eq_left, Option.some.injEq, Sl.eta, Nat.reduceLeDiff, Int.reduceLE, Int.reduceLT, Int.reduceEq, Int.reduceNe, Nat.reduceMul, Nat.reduceAdd, Nat.reduceSub, Int.toNat_natCast, beq_iff_eq, bne_iff_ne, beq_eq_false_iff_ne, bne_eq_false_iff_eq, pick_and, pick_or, Bool.and_eq_true, Bool.or_eq_true, Bool.and_eq_false_iff, Bool.or_eq_false_iff, ne_eq, not_false_eq_true, Bool.not_eq_true', Bool.not_eq_false', reduceCtorEq, Nat.le_refl, Nat.zero_mul, Nat.mul_one, Nat.zero_add, Int.reduceToNat, ones, one, add_mk, Decidable.not_not, cond_true, cond_false, true_implies, false_implies, implies_true, Bool.not_true, Bool.not_false]
  refine ⟨fun hne => ⟨rb (decide_eq_false (by rintro rfl; omega)).symm, Ext.refl w⟩, fun heq => ?_⟩
  refine ⟨fun n w' => ∃ i : Nat, n = i ∧ i ≤ a.n ∧ (∀ k, k < i → xs[k]? = ys[k]?) ∧ Ext w w', fun n _ => (a.n - n).toNat, ⟨0, rfl, Nat.zero_le _, fun k h => absurd h (Nat.not_lt_zero _), Ext.refl w⟩, ?_⟩
  rintro _ n w1 ⟨i, rfl, hi, hsame, x1⟩
  refine ⟨fun hlt => ?_, fun hge => ⟨rb (decide_eq_true (ext_of (by omega) fun k hk => hsame k (by omega))).symm, x1⟩⟩
  obtain ⟨p, x, hp, hx, hcx⟩ := (ha.ext x1).intl i (by omega)
  obtain ⟨q, y, hq, hy, hcy⟩ := (hb.ext x1).intl i (by omega)
  rw [Nat.mul_one] at hcx hcy
  rw [Int.toNat_natCast]
  have ei : IntKind.i64.wrap ((i : Int) + 1) = ((i + 1 : Nat) : Int) := by rw [wrap_i64 (by omega) (by omega)]; omega
  rw [ei]
  refine ⟨by omega, hlt, p, hp, _, hcx, by omega, by omega, q, hq, _, hcy, fun w2 q2 => ⟨fun hne => ⟨rb (decide_eq_false ?_).symm, x1.trans q2.ext⟩, fun he => ⟨⟨i + 1, rfl, by omega, fun k hk => ?_, x1.trans q2.ext⟩, by dsimp only; omega⟩⟩⟩
  · rintro rfl
    rw [hx] at hy; injection hy with hy; exact hne hy
  · rcases Nat.lt_or_ge k i with h | h
    · exact hsame k h
    · have : k = i := by omega
      rw [this, hx, hy, he]
theorem requal_spec (ha : Rd w 1 a (iv xs)) (hb : Rd w 1 b (iv ys)) (hm : xs.length ≤ 1000000000000000) :
    Calls Tryd.prog 32 #[.slice a.a a.n a.c, .slice b.a b.n b.c] w fun e w' => e = .returned (.bool (decide (xs = ys))) ∧ Ext w w' := by
  refine vc_32 _ _ _ _ ?_
  have la := ha.leni; have lb := hb.leni
  simp only [eq_self, false_or, or_false, true_and, and_true, decide_eq_true_eq, decide_eq_false_iff_not, gd_st, gd_sf, exists_eq_left', exists_eq_left, Option.some.injEq, Sl.eta, Nat.reduceLeDiff, Int.reduceLE, Int.reduceLT, Int.reduceEq, Int.reduceNe, Nat.reduceMul, Nat.reduceAdd, Nat.reduceSub, Int.toNat_natCast, beq_iff_eq, bne_iff_ne, beq_eq_false_iff_ne, bne_eq_false_iff_eq, pick_and, pick_or, Bool.and_eq_true, Bool.or_eq_true, Bool.and_eq_false_iff, Bool.or_eq_false_iff, ne_eq, not_false_eq_true, Bool.not_eq_true', Bool.not_eq_false', reduceCtorEq, Nat.le_refl, Nat.zero_mul, Nat.mul_one, Nat.zero_add, Int.reduceToNat, ones, one, add_mk, Decidable.not_not, cond_true, cond_false, true_implies, false_implies, implies_true, Bool.not_true, Bool.not_false]
  refine ⟨fun hne => ⟨rb (decide_eq_false (by rintro rfl; omega)).symm, Ext.refl w⟩, fun heq => ?_⟩
  refine ⟨fun n w' => ∃ i : Nat, n = i ∧ i ≤ a.n ∧ (∀ k, k < i → xs[k]? = ys[k]?) ∧ Ext w w', fun n _ => (a.n - n).toNat, ⟨0, rfl, Nat.zero_le _, fun k h => absurd h (Nat.not_lt_zero _), Ext.refl w⟩, ?_⟩
  rintro _ n w1 ⟨i, rfl, hi, hsame, x1⟩
  refine ⟨fun hlt => ?_, fun hge => ⟨rb (decide_eq_true (ext_of (by omega) fun k hk => hsame k (by omega))).symm, x1⟩⟩
  obtain ⟨p, x, hp, hx, hcx⟩ := (ha.ext x1).intl i (by omega)
  obtain ⟨q, y, hq, hy, hcy⟩ := (hb.ext x1).intl i (by omega)
  rw [Nat.mul_one] at hcx hcy
  rw [Int.toNat_natCast]
  have ei : IntKind.i64.wrap ((i : Int) + 1) = ((i + 1 : Nat) : Int) := by rw [wrap_i64 (by omega) (by omega)]; omega
  rw [ei]
  refine ⟨by omega, hlt, p, hp, _, hcx, by omega, by omega, q, hq, _, hcy, fun w2 q2 => ⟨fun hne => ⟨rb (decide_eq_false ?_).symm, x1.trans q2.ext⟩, fun he => ⟨⟨i + 1, rfl, by omega, fun k hk => ?_, x1.trans q2.ext⟩, by dsimp only; omega⟩⟩⟩
  · rintro rfl
    rw [hx] at hy; injection hy with hy; exact hne hy
  · rcases Nat.lt_or_ge k i with h | h
    · exact hsame k h
    · have : k = i := by omega
      rw [this, hx, hy, he]
theorem knows_spec (x y : Int) (w : World) : Calls Tryd.prog 39 #[.int .i64 x, .int .i64 y] w fun e w' => e = .returned (.bool (decide (y = -1 ∨ x = y))) ∧ w' = w := by
  refine vc_39 _ _ _ _ ?_
  simp only [eq_self, false_or, or_false, true_and, and_true, decide_eq_true_eq, decide_eq_false_iff_not, gd_st, gd_sf, exists_eq_left', exists_eq_left, Option.some.injEq, Sl.eta, Nat.reduceLeDiff, Int.reduceLE, Int.reduceLT, Int.reduceEq, Int.reduceNe, Nat.reduceMul, Nat.reduceAdd, Nat.reduceSub, Int.toNat_natCast, beq_iff_eq, bne_iff_ne, beq_eq_false_iff_ne, bne_eq_false_iff_eq, pick_and, pick_or, Bool.and_eq_true, Bool.or_eq_true, Bool.and_eq_false_iff, Bool.or_eq_false_iff, ne_eq, not_false_eq_true, Bool.not_eq_true', Bool.not_eq_false', reduceCtorEq, Nat.le_refl, Nat.zero_mul, Nat.mul_one, Nat.zero_add, Int.reduceToNat, ones, one, add_mk, Decidable.not_not, cond_true, cond_false, true_implies, false_implies, implies_true, Bool.not_true, Bool.not_false]
  refine ⟨fun h => rb ?_, fun h => rb ?_⟩
  · rw [Bool.eq_iff_iff, beq_iff_eq, decide_eq_true_eq]; constructor
    · exact fun e => .inr e
    · rintro (e | e)
      · exact absurd e h
      · exact e
  · exact (decide_eq_true (.inl h)).symm
theorem equalFunc_spec (ha : Rd w 1 a (iv xs)) (hb : Rd w 1 b (iv ys)) (hm : xs.length ≤ 1000000000000000) :
    Calls Tryd.prog 38 #[.slice a.a a.n a.c, .slice b.a b.n b.c, .func (.func 39) #[] #[]] w fun e w' => e = .returned (.bool (decide (LessP xs ys))) ∧ Ext w w' := by
  refine vc_38 _ _ _ _ ?_
  have la := ha.leni; have lb := hb.leni
  simp only [eq_self, false_or, or_false, true_and, and_true, decide_eq_true_eq, decide_eq_false_iff_not, gd_st, gd_sf, exists_eq_left', exists_eq_left, Option.some.injEq, Sl.eta, Nat.reduceLeDiff, Int.reduceLE, Int.reduceLT, Int.reduceEq, Int.reduceNe, Nat.reduceMul, Nat.reduceAdd, Nat.reduceSub, Int.toNat_natCast, beq_iff_eq, bne_iff_ne, beq_eq_false_iff_ne, bne_eq_false_iff_eq, pick_and, pick_or, Bool.and_eq_true, Bool.or_eq_true, Bool.and_eq_false_iff, Bool.or_eq_false_iff, ne_eq, not_false_eq_true, Bool.not_eq_true', Bool.not_eq_false', reduceCtorEq, Nat.le_refl, Nat.zero_mul, Nat.mul_one, Nat.zero_add, Int.reduceToNat, ones, one, add_mk, Decidable.not_not, cond_true, cond_false, true_implies, false_implies, implies_true, Bool.not_true, Bool.not_false]
  refine ⟨fun hne => ⟨rb (decide_eq_false (by intro h; exact hne (by rw [← la, ← lb, h.1]))).symm, Ext.refl w⟩, fun heq => ?_⟩
  refine ⟨fun n w' => ∃ i : Nat, n = i ∧ i ≤ a.n ∧ (∀ k, k < i → ys.getD k 0 = -1 ∨ xs.getD k 0 = ys.getD k 0) ∧ Ext w w', fun n _ => (a.n - n).toNat, ⟨0, rfl, Nat.zero_le _, fun k h => absurd h (Nat.not_lt_zero _), Ext.refl w⟩, ?_⟩
  rintro _ n w1 ⟨i, rfl, hi, hsame, x1⟩
  refine ⟨fun hlt => ?_, fun hge => ⟨rb (decide_eq_true ⟨by omega, fun k hk => hsame k (by omega)⟩).symm, x1⟩⟩
  obtain ⟨p, x, hp, hx, hcx⟩ := (ha.ext x1).intl i (by omega)
  obtain ⟨q, y, hq, hy, hcy⟩ := (hb.ext x1).intl i (by omega)
  rw [Nat.mul_one] at hcx hcy
  rw [Int.toNat_natCast]
  have ei : IntKind.i64.wrap ((i : Int) + 1) = ((i + 1 : Nat) : Int) := by rw [wrap_i64 (by omega) (by omega)]; omega
  rw [ei]
  refine ⟨by omega, hlt, p, hp, _, hcx, by omega, by omega, q, hq, _, hcy, ⟨(knows_spec x y w1).mono ?_⟩⟩
  rintro e w2 ⟨rfl, rfl⟩
  refine ⟨_, rfl, fun h => ⟨rb (decide_eq_false fun hl => ?_).symm, x1⟩, fun h => ⟨⟨i + 1, rfl, by omega, fun k hk => ?_, x1⟩, by dsimp only; omega⟩⟩
  · have := hl.2 i (by omega)
    rw [getD_of hx, getD_of hy] at this
    exact of_decide_eq_false h this
  · rcases Nat.lt_or_ge k i with h' | h'
    · exact hsame k h'
    · have : k = i := by omega
      rw [this, getD_of hx, getD_of hy]
      exact of_decide_eq_true h
theorem rless_spec (ha : Rd w 1 a (iv xs)) (hb : Rd w 1 b (iv ys)) (hm : xs.length ≤ 1000000000000000) :
    Calls Tryd.prog 40 #[.slice a.a a.n a.c, .slice b.a b.n b.c] w fun e w' => e = .returned (.bool (decide (LessP xs ys))) ∧ Ext w w' := by
  refine vc_40 _ _ _ _ ?_
  have la := ha.leni; have lb := hb.leni
  simp only [eq_self, false_or, or_false, true_and, and_true, decide_eq_true_eq, decide_eq_false_iff_not, gd_st, gd_sf, exists_eq_left', exists_eq_left, Option.some.injEq, Sl.eta, Nat.reduceLeDiff, Int.reduceLE, Int.reduceLT, Int.reduceEq, Int.reduceNe, Nat.reduceMul, Nat.reduceAdd, Nat.reduceSub, Int.toNat_natCast, beq_iff_eq, bne_iff_ne, beq_eq_false_iff_ne, bne_eq_false_iff_eq, pick_and, pick_or, Bool.and_eq_true, Bool.or_eq_true, Bool.and_eq_false_iff, Bool.or_eq_false_iff, ne_eq, not_false_eq_true, Bool.not_eq_true', Bool.not_eq_false', reduceCtorEq, Nat.le_refl, Nat.zero_mul, Nat.mul_one, Nat.zero_add, Int.reduceToNat, ones, one, add_mk, Decidable.not_not, cond_true, cond_false, true_implies, false_implies, implies_true, Bool.not_true, Bool.not_false]
  refine ⟨fun hne => ⟨rb (decide_eq_false (by intro h; exact hne (by rw [← la, ← lb, h.1]))).symm, Ext.refl w⟩, fun heq => ?_⟩
  refine ⟨fun n w' => ∃ i : Nat, n = i ∧ i ≤ a.n ∧ (∀ k, k < i → ys.getD k 0 = -1 ∨ xs.getD k 0 = ys.getD k 0) ∧ Ext w w', fun n _ => (a.n - n).toNat, ⟨0, rfl, Nat.zero_le _, fun k h => absurd h (Nat.not_lt_zero _), Ext.refl w⟩, ?_⟩
  rintro _ n w1 ⟨i, rfl, hi, hsame, x1⟩
  refine ⟨fun hlt => ?_, fun hge => ⟨rb (decide_eq_true ⟨by omega, fun k hk => hsame k (by omega)⟩).symm, x1⟩⟩
  obtain ⟨p, x, hp, hx, hcx⟩ := (ha.ext x1).intl i (by omega)
  obtain ⟨q, y, hq, hy, hcy⟩ := (hb.ext x1).intl i (by omega)
  rw [Nat.mul_one] at hcx hcy
  rw [Int.toNat_natCast]
  have ei : IntKind.i64.wrap ((i : Int) + 1) = ((i + 1 : Nat) : Int) := by rw [wrap_i64 (by omega) (by omega)]; omega
  rw [ei]
  have go : (y = -1 ∨ x = y) → ∀ w2, Ext w1 w2 → ∃ i' : Nat, ((i + 1 : Nat) : Int) = i' ∧ i' ≤ a.n ∧ (∀ k, k < i' → ys.getD k 0 = -1 ∨ xs.getD k 0 = ys.getD k 0) ∧ Ext w w2 := fun h w2 x2 =>
    ⟨i + 1, rfl, by omega, fun k hk => by
      rcases Nat.lt_or_ge k i with h' | h'
      · exact hsame k h'
      · have : k = i := by omega
        rw [this, getD_of hx, getD_of hy]; exact h, x1.trans x2⟩
  refine ⟨by omega, by omega, q, hq, _, hcy, fun h1 => ⟨by omega, hlt, p, hp, _, hcx, by omega, by omega, q, hq, _, hcy, fun w2 q2 => ⟨fun hne => ⟨rb (decide_eq_false fun hl => ?_).symm, x1.trans q2.ext⟩, fun he => ⟨go (.inr he) _ q2.ext, by dsimp only; omega⟩⟩⟩, fun h1 w2 q2 => ⟨go (.inl h1) _ q2.ext, by dsimp only; omega⟩⟩
  have := hl.2 i (by omega)
  rw [getD_of hx, getD_of hy] at this
  rcases this with h | h
  · exact h1 h
  · exact hne h
theorem clone_spec (ha : Rd w 1 a (iv xs)) (hm : xs.length ≤ 17592186044000) :
    Calls Tryd.prog 43 #[.slice a.a a.n a.c] w fun e w' => ∃ s : Sl, e = .returned (.slice s.a s.n s.c) ∧ s.n = a.n ∧ Own w' w.heap.size 3 1 s (iv xs) ∧ Ext w w' := by
  refine vc_43 _ _ _ ?_
  have la := ha.leni
  simp only [eq_self, false_or, or_false, true_and, and_true, decide_eq_true_eq, decide_eq_false_iff_not, gd_st, gd_sf, exists_eq_left', exists_eq_left, Option.some.injEq, Sl.eta, Nat.reduceLeDiff, Int.reduceLE, Int.reduceLT, Int.reduceEq, Int.reduceNe, Nat.reduceMul, Nat.reduceAdd, Nat.reduceSub, Int.toNat_natCast, beq_iff_eq, bne_iff_ne, beq_eq_false_iff_ne, bne_eq_false_iff_eq, pick_and, pick_or, Bool.and_eq_true, Bool.or_eq_true, Bool.and_eq_false_iff, Bool.or_eq_false_iff, ne_eq, not_false_eq_true, Bool.not_eq_true', Bool.not_eq_false', reduceCtorEq, Nat.le_refl, Nat.zero_mul, Nat.mul_one, Nat.zero_add, Int.reduceToNat, ones, one, add_mk, Decidable.not_not, cond_true, cond_false, true_implies, false_implies, implies_true, Bool.not_true, Bool.not_false]
  refine ⟨fun hn => ?_, fun hn w1 n1 => ?_⟩
  · have hnone : a.a = none := by cases h : a.a with
      | none => rfl
      | some p => rw [h] at hn; cases hn
    have h0 : a.n = 0 := by
      rcases Nat.eq_zero_or_pos a.n with h | h
      · exact h
      · obtain ⟨p, hp, _⟩ := ha.2 h
        rw [hnone] at hp; cases hp
    have hx : xs = [] := List.eq_nil_of_length_eq_zero (by omega)
    subst hx
    exact ⟨⟨none, 0, 0⟩, rfl, h0.symm, Own.nil _ _ _ _, Ext.refl w⟩
  · have o1 : Own w1 w.heap.size 3 1 ⟨some ⟨w.heap.size, 0, none⟩, 0, 0⟩ (iv []) := Own.lit (z := 1) (n := 0) (cs := []) n1 (Nat.le_refl _) rfl (by decide)
    obtain ⟨r, w2, hr, hrn, o2, u2, _⟩ := o1.append (t := 22) (ty := 22) tab_ok (by rfl) (by rfl) (by decide) (ha.ext n1.ext) (iv_ones _) (by dsimp only; omega) (by dsimp only; omega) (by have := n1.size; omega)
    exact ⟨r, w2, hr, r, rfl, by rw [hrn]; show 0 + a.n = a.n; omega, o2, n1.ext.fresh u2 (by rintro i ⟨q, hq, rfl⟩; cases hq; exact Nat.le_refl _)⟩
end
end Go.Proofs.YtfppdkkbekkhbaaDoor.V
