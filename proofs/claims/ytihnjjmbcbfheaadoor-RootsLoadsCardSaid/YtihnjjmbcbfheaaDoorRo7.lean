/-
  The document's table: Sites, At; what the law asks of both.
-/
import Derived.Test.YtihnjjmbcbfheaaDoorRo6
namespace Go.Proofs.YtihnjjmbcbfheaaDoor.V
open Go Go.RowKit
set_option linter.unusedVariables false
set_option linter.unusedSimpArgs false
set_option linter.unusedSectionVars false
set_option maxRecDepth 100000

def DTK (w : World) (s : Sl) (T : List (List Pl)) : Prop := ∃ q : List Sl, q.length = T.length ∧ ∀ w', Ext w w' → Rd w' 1 s (slV q) ∧ ∀ (k : Nat) (a : Sl) (l : List Pl), q[k]? = some a → T[k]? = some l → Rd w' 3 a (plV l)
section
variable {w w' : World} {B : Nat} {s : Sl} {T : List (List Pl)}
theorem DTO.dtk (h : DTO w B s T) : DTK w s T := by
  obtain ⟨q, h1, h2, h3⟩ := h
  exact ⟨q, h2, fun w' u => ⟨(h1.ext u).rd, fun k a l ha hl => ((h3 k a l ha hl).ext u).rd⟩⟩
theorem DTK.ext (h : DTK w s T) (u : Ext w w') : DTK w' s T := by
  obtain ⟨q, h1, h2⟩ := h
  exact ⟨q, h1, fun w'' v => h2 w'' (u.trans v)⟩
theorem DTK.n (h : DTK w s T) : s.n = T.length := by
  obtain ⟨q, h1, h2⟩ := h
  have := (h2 w (Ext.refl _)).1.len1
  rw [slV_len] at this; omega
theorem DTK.at_ (h : DTK w s T) {k : Nat} {l : List Pl} (hl : T[k]? = some l) : ∃ p a, s.a = some p ∧ ∀ w', Ext w w' → w'.cell? (p.add k) = some (.slice a.a a.n a.c) ∧ Rd w' 3 a (plV l) := by
  have hn := h.n
  obtain ⟨q, h1, h2⟩ := h
  have hk := (List.getElem?_eq_some_iff.1 hl).1
  obtain ⟨a, ha⟩ : ∃ a, q[k]? = some a := ⟨_, List.getElem?_eq_getElem (by omega)⟩
  obtain ⟨p, hp, _⟩ := (h2 w (Ext.refl _)).1.2 (by omega)
  refine ⟨p, a, hp, fun w' u => ⟨?_, (h2 w' u).2 k a l ha hl⟩⟩
  obtain ⟨p', hp', hc⟩ := (h2 w' u).1.2 (by omega)
  rw [hp] at hp'; injection hp' with hp'; subst hp'
  exact hc k _ (by unfold slV; rw [List.getElem?_map, ha]; rfl)
theorem iv_snoc (l : List Int) (y : Int) : iv (l ++ [y]) = iv l ++ [.int .i64 y] := by unfold iv; rw [List.map_append]; rfl
theorem take_snoc {α : Type} {l : List α} {k : Nat} {y : α} (h : l[k]? = some y) : l.take (k + 1) = l.take k ++ [y] := by
  rw [List.take_add_one, h]; rfl
theorem rsites_spec (D : DTK w s T) (hO : ∀ l ∈ T, l.length ≤ 300 ∧ Okp 0 l) (fn : Int) :
    Calls Tryd.prog 31 #[.slice s.a s.n s.c, .int .i64 fn] w fun e w' => ∃ so : Sl, e = .returned (.slice so.a so.n so.c) ∧ Own w' w.heap.size 3 1 so (iv (sitesT T fn)) ∧ Ext w w' := by
  have hn := D.n
  refine vc_31 _ _ _ _ ?_
  simp only [eq_self, false_or, or_false, true_and, and_true, decide_eq_true_eq, decide_eq_false_iff_not, gd_st, gd_sf, exists_eq_left', exists_eq_left, Option.some.injEq, Sl.eta, Nat.reduceLeDiff, Int.reduceLE, Int.reduceLT, Int.reduceEq, Int.reduceNe, Nat.reduceMul, Nat.reduceAdd, Nat.reduceSub, Int.toNat_natCast, beq_iff_eq, bne_iff_ne, beq_eq_false_iff_ne, bne_eq_false_iff_eq, pick_and, pick_or, Bool.and_eq_true, Bool.or_eq_true, Bool.and_eq_false_iff, Bool.or_eq_false_iff, ne_eq, not_false_eq_true, Bool.not_eq_true', Bool.not_eq_false', reduceCtorEq, Nat.le_refl, Nat.zero_mul, Nat.mul_one, Nat.zero_add, Int.reduceToNat, ones, one, add_mk, Decidable.not_not, cond_true, cond_false, true_implies, false_implies, implies_true, Bool.not_true, Bool.not_false]
  have none_ : rowAt T fn = [] → ∃ so : Sl, Ending.returned (.slice none 0 0) = .returned (.slice so.a so.n so.c) ∧ Own w w.heap.size 3 1 so (iv (sitesT T fn)) ∧ Ext w w := fun h => ⟨⟨none, 0, 0⟩, rfl, by unfold sitesT; rw [h]; exact Own.nil _ _ _ _, Ext.refl _⟩
  refine ⟨fun h0 => ⟨fun hge => ?_, fun hlt => ?_⟩, fun hneg => ?_⟩
  · refine none_ ?_
    unfold rowAt
    rw [if_pos (by omega), List.getElem?_eq_none (by omega)]; rfl
  rotate_left
  · refine none_ ?_
    unfold rowAt
    rw [if_neg (by omega)]
  obtain ⟨k, rfl⟩ : ∃ k : Nat, fn = (k : Nat) := ⟨fn.toNat, by omega⟩
  obtain ⟨l, hl⟩ : ∃ l, T[k]? = some l := ⟨_, List.getElem?_eq_getElem (by omega)⟩
  have hrow : rowAt T (k : Nat) = l := by unfold rowAt; rw [if_pos (by omega), Int.toNat_natCast, hl]; rfl
  have hll := (hO l (List.mem_of_getElem? hl)).1
  obtain ⟨p, a, hp, hc⟩ := D.at_ hl
  have han := (hc w (Ext.refl _)).2.pln
  unfold sitesT
  rw [hrow]
  refine ⟨fun so n w' => ∃ i : Nat, n = (i : Nat) ∧ i ≤ l.length ∧ Own w' w.heap.size 3 1 so (iv ((l.take i).map fun p => ((p.at_ : Nat) : Int))) ∧ Ext w w', fun _ n _ => (l.length - n).toNat, ⟨0, rfl, Nat.zero_le _, Own.nil _ _ _ _, Ext.refl _⟩, ?_⟩
  rintro _ so n w1 ⟨i, rfl, hi, o1, x1⟩
  have ei : IntKind.i64.wrap ((i : Int) + 1) = ((i + 1 : Nat) : Int) := by rw [wrap_i64 (by omega) (by omega)]; omega
  rw [ei]
  simp only [Int.toNat_natCast]
  refine ⟨by omega, by omega, p, hp, a, (hc w1 x1).1, fun hlt1 => ?_, fun hge1 => ?_⟩
  · obtain ⟨x, hx⟩ : ∃ x, l[i]? = some x := ⟨_, List.getElem?_eq_getElem (by omega)⟩
    obtain ⟨pa, hpa, c0, _, _⟩ := (hc w1 x1).2.pl hx
    refine ⟨by omega, by omega, p, hp, a, (hc w1 x1).1, by omega, by omega, pa, hpa, _, c0, fun w2 n2 => ?_⟩
    have o2 := o1.ext n2.ext
    have z1 := x1.size
    have z2 := n2.size
    have hsn := o1.rd.leni
    rw [List.length_map, List.length_take] at hsn
    obtain ⟨s', w3, hr3, _, o3, u3, _⟩ := o2.append (t := 78) (ty := 78) tab_ok rfl rfl (by decide) ((Blk.new n2).rd (z := 1) (o := 0) (n := 1) (c := 1) (by simp)) (by simp [one]) (by dsimp only; omega) (by dsimp only; omega) (by omega)
    refine ⟨s', w3, hr3, ⟨i + 1, rfl, by omega, ?_, (x1.trans n2.ext).fresh u3 (by rintro j ⟨q, hq, rfl⟩; exact (o2.base q hq).1)⟩, by omega⟩
    rw [take_snoc hx, List.map_append, List.map_singleton, iv_snoc]
    exact o3
  · have : i = l.length := by omega
    subst this
    rw [List.take_length] at o1
    exact ⟨so, rfl, o1, x1⟩
set_option maxHeartbeats 1000000 in
theorem rat_spec (D : DTK w s T) (hO : ∀ l ∈ T, l.length ≤ 300 ∧ Okp 0 l) (fn c : Int) :
    Calls Tryd.prog 32 #[.slice s.a s.n s.c, .int .i64 fn, .int .i64 c] w fun e w' => e = .returned (.tuple #[.agg #[.int .u64 (((atT T fn c).getD (0, 0)).1 : Nat), .int .u64 (((atT T fn c).getD (0, 0)).2 : Nat)], .bool (atT T fn c).isSome]) ∧ Ext w w' := by
  have hn := D.n
  refine vc_32 _ _ _ _ _ ?_
  simp only [eq_self, false_or, or_false, true_and, and_true, decide_eq_true_eq, decide_eq_false_iff_not, gd_st, gd_sf, exists_eq_left', exists_eq_left, Option.some.injEq, Sl.eta, Nat.reduceLeDiff, Int.reduceLE, Int.reduceLT, Int.reduceEq, Int.reduceNe, Nat.reduceMul, Nat.reduceAdd, Nat.reduceSub, Int.toNat_natCast, beq_iff_eq, bne_iff_ne, beq_eq_false_iff_ne, bne_eq_false_iff_eq, pick_and, pick_or, Bool.and_eq_true, Bool.or_eq_true, Bool.and_eq_false_iff, Bool.or_eq_false_iff, ne_eq, not_false_eq_true, Bool.not_eq_true', Bool.not_eq_false', reduceCtorEq, Nat.le_refl, Nat.zero_mul, Nat.mul_one, Nat.zero_add, Int.reduceToNat, ones, one, add_mk, Decidable.not_not, cond_true, cond_false, true_implies, false_implies, implies_true, Bool.not_true, Bool.not_false]
  intro w1 n1
  have k1 : Blk w1 w.heap.size 44 [.int .u64 0, .int .u64 0] := Blk.new n1
  have put : ∀ (w2 : World) (x y : Nat) (b : Bool), Ext w1 w2 → atT T fn c = (if b then some (x, y) else none) → (b = false → x = 0 ∧ y = 0) → CanSet w2 ⟨w.heap.size, 0, none⟩ 2 ∧ ∀ w3, SetW w2 ⟨w.heap.size, 0, none⟩ [.int .u64 (x : Nat), .int .u64 (y : Nat)] w3 →
      ∃ m m' : Int, len' [Value.int .u64 m, .int .u64 m'] = 2 ∧ (w3.cell? ⟨w.heap.size, 0, none⟩ = some (.int .u64 m) ∧ w3.cell? ⟨w.heap.size, 1, none⟩ = some (.int .u64 m')) ∧
        Ending.returned (.tuple #[.agg #[.int .u64 m, .int .u64 m'], .bool b]) = .returned (.tuple #[.agg #[.int .u64 (((atT T fn c).getD (0, 0)).1 : Nat), .int .u64 (((atT T fn c).getD (0, 0)).2 : Nat)], .bool (atT T fn c).isSome]) ∧ Ext w w3 := by
    intro w2 x y b x2 hat hb
    have k2 := k1.ext x2
    refine ⟨k2.canSetN 0 2 (by simp), fun w3 s3 => ?_⟩
    have k3 : Blk w3 w.heap.size 44 [.int .u64 (x : Nat), .int .u64 (y : Nat)] := s3.blk k2
    refine ⟨_, _, rfl, ⟨k3.cell 0, k3.cell 1⟩, ?_, (n1.ext.trans x2).fresh s3.upd (by rintro i rfl; exact Nat.le_refl _)⟩
    rw [hat]
    cases b with
    | true => rfl
    | false => obtain ⟨rfl, rfl⟩ := hb rfl; rfl
  have nothing : rowAt T fn = [] → atT T fn c = (if false then some (0, 0) else none) := fun h => by unfold atT; rw [h]; rfl
  refine ⟨fun h0 => ⟨fun hge => ?_, fun hlt => ?_⟩, fun hneg => ?_⟩
  · exact put w1 0 0 false (Ext.refl _) (nothing (by unfold rowAt; rw [if_pos (by omega), List.getElem?_eq_none (by omega)]; rfl)) (fun _ => ⟨rfl, rfl⟩)
  rotate_left
  · exact put w1 0 0 false (Ext.refl _) (nothing (by unfold rowAt; rw [if_neg (by omega)])) (fun _ => ⟨rfl, rfl⟩)
  obtain ⟨k, rfl⟩ : ∃ k : Nat, fn = (k : Nat) := ⟨fn.toNat, by omega⟩
  obtain ⟨l, hl⟩ : ∃ l, T[k]? = some l := ⟨_, List.getElem?_eq_getElem (by omega)⟩
  have hrow : rowAt T (k : Nat) = l := by unfold rowAt; rw [if_pos (by omega), Int.toNat_natCast, hl]; rfl
  have hll := (hO l (List.mem_of_getElem? hl)).1
  obtain ⟨p, a, hp, hc⟩ := D.at_ hl
  have han := (hc w (Ext.refl _)).2.pln
  refine ⟨fun n w' => ∃ i : Nat, n = (i : Nat) ∧ i ≤ l.length ∧ (∀ (j : Nat) (q : Pl), j < i → l[j]? = some q → ((q.at_ : Nat) : Int) ≠ c) ∧ Ext w1 w', fun n _ => (l.length - n).toNat, ⟨0, rfl, Nat.zero_le _, fun j q hj => absurd hj (Nat.not_lt_zero _), Ext.refl _⟩, ?_⟩
  rintro _ n w2 ⟨i, rfl, hi, hno, x2⟩
  have x02 := n1.ext.trans x2
  have ei : IntKind.i64.wrap ((i : Int) + 1) = ((i + 1 : Nat) : Int) := by rw [wrap_i64 (by omega) (by omega)]; omega
  rw [ei]
  simp only [Int.toNat_natCast]
  refine ⟨by omega, by omega, p, hp, a, (hc w2 x02).1, fun hlt1 => ?_, fun hge1 => ?_⟩
  · obtain ⟨x, hx⟩ : ∃ x, l[i]? = some x := ⟨_, List.getElem?_eq_getElem (by omega)⟩
    obtain ⟨pa, hpa, c0, c1, c2⟩ := (hc w2 x02).2.pl hx
    refine ⟨by omega, by omega, p, hp, a, (hc w2 x02).1, by omega, by omega, pa, hpa, _, c0, fun he => ?_, fun hne => ⟨⟨i + 1, rfl, by omega, fun j q hj hq => ?_, x2⟩, by omega⟩⟩
    · refine ⟨by omega, by omega, p, hp, a, (hc w2 x02).1, by omega, by omega, pa, hpa, _, _, rfl, ⟨c1, c2⟩, rfl, ?_⟩
      refine put w2 x.loc x.stk true x2 ?_ (fun h => by cases h)
      unfold atT
      rw [hrow]
      have : l.find? (fun p => decide (((p.at_ : Nat) : Int) = c)) = some x := by
        rw [List.find?_eq_some_iff_getElem]
        refine ⟨by rw [decide_eq_true_eq]; exact he, i, (List.getElem?_eq_some_iff.1 hx).1, (List.getElem?_eq_some_iff.1 hx).2, fun j hj => ?_⟩
        rw [Bool.not_eq_true', decide_eq_false_iff_not]
        exact hno j _ hj (List.getElem?_eq_getElem (by omega))
      rw [this]; rfl
    · rcases Nat.lt_or_ge j i with h1 | h1
      · exact hno j q h1 hq
      · have : j = i := by omega
        subst this
        rw [hx] at hq; injection hq with hq; subst hq
        exact hne
  · refine put w2 0 0 false x2 ?_ (fun _ => ⟨rfl, rfl⟩)
    unfold atT
    rw [hrow]
    have : l.find? (fun p => decide (((p.at_ : Nat) : Int) = c)) = none := by
      rw [List.find?_eq_none]
      intro q hq
      obtain ⟨j, hj⟩ := List.getElem?_of_mem hq
      rw [decide_eq_true_eq]
      exact hno j q (by have := (List.getElem?_eq_some_iff.1 hj).1; omega) hj
    rw [this]; rfl
theorem same_spec {a b : Sl} {l : List Int} (ha : Rd w 1 a (iv l)) (hb : Rd w 1 b (iv l)) (hl : l.length ≤ 1000000) :
    Calls Tryd.prog 30 #[.slice a.a a.n a.c, .slice b.a b.n b.c] w fun e w' => e = .returned (.bool true) ∧ Ext w w' := by
  have hna := ha.leni
  have hnb := hb.leni
  refine vc_30 _ _ _ _ ?_
  simp only [eq_self, false_or, or_false, true_and, and_true, decide_eq_true_eq, decide_eq_false_iff_not, gd_st, gd_sf, exists_eq_left', exists_eq_left, Option.some.injEq, Sl.eta, Nat.reduceLeDiff, Int.reduceLE, Int.reduceLT, Int.reduceEq, Int.reduceNe, Nat.reduceMul, Nat.reduceAdd, Nat.reduceSub, Int.toNat_natCast, beq_iff_eq, bne_iff_ne, beq_eq_false_iff_ne, bne_eq_false_iff_eq, pick_and, pick_or, Bool.and_eq_true, Bool.or_eq_true, Bool.and_eq_false_iff, Bool.or_eq_false_iff, ne_eq, not_false_eq_true, Bool.not_eq_true', Bool.not_eq_false', reduceCtorEq, Nat.le_refl, Nat.zero_mul, Nat.mul_one, Nat.zero_add, Int.reduceToNat, ones, one, add_mk, Decidable.not_not, cond_true, cond_false, true_implies, false_implies, implies_true, Bool.not_true, Bool.not_false]
  refine ⟨fun h => absurd (by omega) h, fun _ => ?_⟩
  refine ⟨fun n w' => ∃ i : Nat, n = (i : Nat) ∧ i ≤ l.length ∧ Ext w w', fun n _ => (l.length - n).toNat, ⟨0, rfl, Nat.zero_le _, Ext.refl _⟩, ?_⟩
  rintro _ n w1 ⟨i, rfl, hi, x1⟩
  have ei : IntKind.i64.wrap ((i : Int) + 1) = ((i + 1 : Nat) : Int) := by rw [wrap_i64 (by omega) (by omega)]; omega
  rw [ei]
  simp only [Int.toNat_natCast]
  refine ⟨fun hlt => ?_, fun hge => x1⟩
  obtain ⟨p, hp, hc⟩ := (ha.ext x1).2 (by omega)
  obtain ⟨p', hp', hc'⟩ := (hb.ext x1).2 (by omega)
  have hv : (iv l)[i]? = some (.int .i64 (l[i]'(by omega))) := by unfold iv; rw [List.getElem?_map, List.getElem?_eq_getElem (by omega)]; rfl
  exact ⟨by omega, by omega, p, hp, _, hc i _ hv, by omega, by omega, p', hp', _, hc' i _ hv, fun w2 q2 => ⟨fun h => absurd rfl h, fun _ => ⟨⟨i + 1, rfl, by omega, x1.trans q2.ext⟩, by omega⟩⟩⟩
end
end Go.Proofs.YtihnjjmbcbfheaaDoor.V
