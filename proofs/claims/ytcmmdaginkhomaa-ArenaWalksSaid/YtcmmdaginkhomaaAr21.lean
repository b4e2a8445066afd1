/-
  Which cells are references; Check by the document.
-/
import Derived.Test.YtcmmdaginkhomaaAr20
namespace Go.Proofs.Ytcmmdaginkhomaa.V
open Go Go.RowKit
set_option linter.unusedVariables false
set_option linter.unusedSimpArgs false
set_option maxRecDepth 100000

def refT (h : Hd) (i : Nat) : Bool := h.k == 3 || (h.k == 1 && h.r / 2 ^ i % 2 == 1)
theorem bool_nat (n : Nat) : (((n : Nat) : Int) == 1) = (n == 1) := by
  rw [Bool.eq_iff_iff]; simp only [beq_iff_eq]; omega
theorem refs_spec (h : Hd) {i : Nat} (m : MayT h) (hi : (i : Int) < h.l) (w : World) : Calls Try.prog 61 #[hdV h, .int .i64 (i : Nat)] w fun e w' => e = .returned (.bool (refT h i)) ∧ Ext w w' := by
  refine vc_61 _ _ _ _ _ _ _ ?_
  have m1 := m.le; have m2 := m.kind
  simp only [eq_self, false_or, or_false, true_and, and_true, decide_eq_true_eq, decide_eq_false_iff_not, gd_st, gd_sf, exists_eq_left', exists_eq_left, Option.some.injEq, Sl.eta, Nat.reduceLeDiff, Int.reduceLE, Int.reduceLT, Int.reduceEq, Int.reduceNe, Nat.reduceMul, Nat.reduceAdd, Nat.reduceSub, Int.toNat_natCast, beq_iff_eq, bne_iff_ne, beq_eq_false_iff_ne, bne_eq_false_iff_eq, pick_and, pick_or, Bool.and_eq_true, Bool.or_eq_true, Bool.and_eq_false_iff, Bool.or_eq_false_iff, ne_eq, not_false_eq_true, Bool.not_eq_true', Bool.not_eq_false', reduceCtorEq, Nat.le_refl, Nat.zero_mul, Nat.mul_one, Nat.zero_add, Int.reduceToNat, ones, one, add_mk, Decidable.not_not, cond_true, cond_false, true_implies, false_implies, implies_true, Bool.not_true, Bool.not_false]
  intro w1 n1
  have k1 := Blk.new n1
  have x1 := n1.ext
  simp only [k1.cell, List.getElem?_cons_zero, List.getElem?_cons_succ, ex_sl, Value.int.injEq, Value.bool.injEq, Value.pointer.injEq, Value.string.injEq, eq_self, false_or, or_false, true_and, and_true, decide_eq_true_eq, decide_eq_false_iff_not, gd_st, gd_sf, exists_eq_left', exists_eq_left, Option.some.injEq, Sl.eta, Nat.reduceLeDiff, Int.reduceLE, Int.reduceLT, Int.reduceEq, Int.reduceNe, Nat.reduceMul, Nat.reduceAdd, Nat.reduceSub, Int.toNat_natCast, beq_iff_eq, bne_iff_ne, beq_eq_false_iff_ne, bne_eq_false_iff_eq, pick_and, pick_or, Bool.and_eq_true, Bool.or_eq_true, Bool.and_eq_false_iff, Bool.or_eq_false_iff, ne_eq, not_false_eq_true, Bool.not_eq_true', Bool.not_eq_false', reduceCtorEq, Nat.le_refl, Nat.zero_mul, Nat.mul_one, Nat.zero_add, Int.reduceToNat, ones, one, add_mk, Decidable.not_not, cond_true, cond_false, true_implies, false_implies, implies_true, Bool.not_true, Bool.not_false]
  unfold refT
  refine ⟨fun h1 => ⟨fun h2 => ⟨?_, rb ?_, x1⟩, fun h2 => ⟨rb ?_, x1⟩⟩, fun h1 => ⟨rb ?_, x1⟩⟩
  · rw [wrap_u64 (by omega) (by omega)]; omega
  · have h3 : h.l ≤ 32 := by rcases m.2.2.2 with h | h <;> omega
    rw [wrap_u64 (by omega) (by omega), shr_nat .u64 h.r i (by show i ≤ 64; omega), Int.tmod_eq_emod_of_nonneg (Int.natCast_nonneg _), show ((h.r / 2 ^ i : Nat) : Int) % 2 = ((h.r / 2 ^ i % 2 : Nat) : Int) by omega, bool_nat, h2]
    rfl
  · have e1 : (h.k == 3) = false := by simp [h1]
    have e2 : (h.k == 1) = false := by simp [h2]
    rw [e1, e2]; rfl
  · rw [h1]; rfl
theorem reference_spec (h : Hd) {i : Nat} (m : MayT h) (hi : (i : Int) < h.l) (w : World) : Calls Try.prog 43 #[hdV h, .int .i64 (i : Nat)] w fun e w' => e = .returned (.bool (refT h i)) ∧ Ext w w' := by
  refine vc_43 _ _ _ _ _ _ _ ?_
  have m1 := m.le; have m2 := m.kind; have m3 := m.lt
  simp only [eq_self, false_or, or_false, true_and, and_true, decide_eq_true_eq, decide_eq_false_iff_not, gd_st, gd_sf, exists_eq_left', exists_eq_left, Option.some.injEq, Sl.eta, Nat.reduceLeDiff, Int.reduceLE, Int.reduceLT, Int.reduceEq, Int.reduceNe, Nat.reduceMul, Nat.reduceAdd, Nat.reduceSub, Int.toNat_natCast, beq_iff_eq, bne_iff_ne, beq_eq_false_iff_ne, bne_eq_false_iff_eq, pick_and, pick_or, Bool.and_eq_true, Bool.or_eq_true, Bool.and_eq_false_iff, Bool.or_eq_false_iff, ne_eq, not_false_eq_true, Bool.not_eq_true', Bool.not_eq_false', reduceCtorEq, Nat.le_refl, Nat.zero_mul, Nat.mul_one, Nat.zero_add, Int.reduceToNat, ones, one, add_mk, Decidable.not_not, cond_true, cond_false, true_implies, false_implies, implies_true, Bool.not_true, Bool.not_false]
  intro w1 n1
  have k1 := Blk.new n1
  have x1 := n1.ext
  simp only [k1.cell, List.getElem?_cons_zero, List.getElem?_cons_succ, ex_sl, Value.int.injEq, Value.bool.injEq, Value.pointer.injEq, Value.string.injEq, eq_self, false_or, or_false, true_and, and_true, decide_eq_true_eq, decide_eq_false_iff_not, gd_st, gd_sf, exists_eq_left', exists_eq_left, Option.some.injEq, Sl.eta, Nat.reduceLeDiff, Int.reduceLE, Int.reduceLT, Int.reduceEq, Int.reduceNe, Nat.reduceMul, Nat.reduceAdd, Nat.reduceSub, Int.toNat_natCast, beq_iff_eq, bne_iff_ne, beq_eq_false_iff_ne, bne_eq_false_iff_eq, pick_and, pick_or, Bool.and_eq_true, Bool.or_eq_true, Bool.and_eq_false_iff, Bool.or_eq_false_iff, ne_eq, not_false_eq_true, Bool.not_eq_true', Bool.not_eq_false', reduceCtorEq, Nat.le_refl, Nat.zero_mul, Nat.mul_one, Nat.zero_add, Int.reduceToNat, ones, one, add_mk, Decidable.not_not, cond_true, cond_false, true_implies, false_implies, implies_true, Bool.not_true, Bool.not_false]
  unfold refT
  refine ⟨fun h1 => ⟨fun h2 => ⟨by omega, rb ?_, x1⟩, fun h2 => ⟨rb ?_, x1⟩⟩, fun h1 => ⟨rb ?_, x1⟩⟩
  · have h3 : h.l ≤ 32 := by rcases m.2.2.2 with h | h <;> omega
    have h4 : h.r / 2 ^ i < 18446744073709551616 := Nat.lt_of_le_of_lt (Nat.div_le_self _ _) (by omega)
    rw [shr_nat .u64 h.r i (by show i ≤ 64; omega), show (1 : Int) = ((1 : Nat) : Int) from rfl, and_u64 _ _ h4 (by decide), show h.r / 2 ^ i &&& 1 = h.r / 2 ^ i % 2 from Nat.and_two_pow_sub_one_eq_mod _ 1, h2]
    exact bool_nat _
  · have e1 : (h.k == 3) = false := by simp [h1]
    have e2 : (h.k == 1) = false := by simp [h2]
    rw [e1, e2]; rfl
  · rw [h1]; rfl
/-- does an object stand at x, or is it no reference -/
def thereT (l : List Ob) (x : Nat) : Bool := x == 0 || l.any fun o => o.1 == x
def badC (A : Ar) (l : List Ob) (o : Ob) (i : Nat) : Bool := refT o.2 i && !thereT l (A.ws.getD (o.1 + i) 0)
def badT (A : Ar) (l : List Ob) (o : Ob) : Bool := (List.range o.2.l.toNat).any (badC A l o)
def checkT (A : Ar) : Nat × Int :=
  if (allT A).2 = A.use.e then
    match (allT A).1.find? (badT A (allT A).1) with
    | some o => (o.1 - 1, 21)
    | none => (0, 0)
  else ((allT A).2, 21)
theorem badT_true {A : Ar} {l : List Ob} {o : Ob} {i : Nat} (hi : i < o.2.l.toNat) (h : badC A l o i = true) : badT A l o = true :=
  List.any_eq_true.2 ⟨i, List.mem_range.2 hi, h⟩
theorem badT_false {A : Ar} {l : List Ob} {o : Ob} (h : ∀ i, i < o.2.l.toNat → badC A l o i = false) : badT A l o = false := by
  rw [← Bool.not_eq_true]
  intro hh
  obtain ⟨i, h1, h2⟩ := List.any_eq_true.1 hh
  rw [h i (List.mem_range.1 h1)] at h2; cases h2
theorem find_at {α : Type} {p : α → Bool} {l : List α} {j : Nat} {o : α} (ho : l[j]? = some o) (hp : p o = true) (hb : ∀ (i : Nat) (x : α), i < j → l[i]? = some x → p x = false) : l.find? p = some o := by
  induction l generalizing j with
  | nil => cases ho
  | cons a l ih =>
    cases j with
    | zero => injection ho with ho; subst ho; rw [List.find?_cons_of_pos hp]
    | succ j =>
      have := hb 0 a (by omega) rfl
      rw [List.find?_cons_of_neg (by rw [this]; decide)]
      exact ih ho fun i x hi hx => hb (i + 1) x (by omega) hx
theorem find_none {α : Type} {p : α → Bool} {l : List α} (hb : ∀ (i : Nat) (x : α), l[i]? = some x → p x = false) : l.find? p = none := by
  rw [List.find?_eq_none]
  intro x hx
  obtain ⟨i, hi⟩ := List.mem_iff_getElem?.1 hx
  rw [hb i x hi]; decide
/-- the row of bools that Check fills -/
def marks (n : Nat) (l : List Ob) : List Value := (List.range n).map fun x => .bool (thereT l x)
theorem marks_length (n : Nat) (l : List Ob) : (marks n l).length = n := by simp [marks]
theorem marks_at {n : Nat} {l : List Ob} {x : Nat} (hx : x < n) : (marks n l)[x]? = some (.bool (thereT l x)) := by
  unfold marks; rw [List.getElem?_map, List.getElem?_range hx]; rfl
theorem marks_nil (n : Nat) (hn : 0 < n) : (List.replicate n (Value.bool false)).set 0 (.bool true) = marks n [] := by
  apply List.ext_getElem?
  intro j
  rw [List.getElem?_set]
  by_cases hj : j < n
  · rw [marks_at hj]
    by_cases h0 : 0 = j
    · subst h0; simp [hn, thereT]
    · rw [if_neg h0, List.getElem?_replicate, if_pos hj]
      have : (j == 0) = false := by simp; omega
      simp [thereT, this]
  · have e : (marks n [])[j]? = none := List.getElem?_eq_none (by rw [marks_length]; omega)
    rw [e, if_neg (by omega), List.getElem?_replicate, if_neg hj]
theorem marks_snoc {n : Nat} {l : List Ob} {o : Ob} (ho : o.1 < n) : (marks n l).set o.1 (.bool true) = marks n (l ++ [o]) := by
  apply List.ext_getElem?
  intro j
  rw [List.getElem?_set, marks_length]
  by_cases hj : j < n
  · rw [marks_at hj, marks_at hj]
    by_cases h0 : o.1 = j
    · subst h0; simp [ho, thereT]
    · rw [if_neg h0]
      have : (o.1 == j) = false := by simp; omega
      simp [thereT, this]
  · rw [List.getElem?_eq_none (by rw [marks_length]; omega), List.getElem?_eq_none (by rw [marks_length]; omega), if_neg (by omega)]
theorem take_snoc {α : Type} {l : List α} {j : Nat} {o : α} (h : l[j]? = some o) : l.take (j + 1) = l.take j ++ [o] := by
  rw [List.take_add_one, h]; rfl
theorem rcheck_spec {w : World} {b g : Nat} {A : Ar} (h : ArW 76 w b g A) :
    Calls Try.prog 53 #[.pointer (some ⟨g, 0, none⟩)] w fun e w' => e = .returned (.tuple #[.int .i64 ((checkT A).1 : Nat), .int .i64 (checkT A).2]) ∧ Ext w w' := by
  refine vc_53 _ _ _ ?_
  have hi := h.ok.useIn
  have hn := h.ok.n; have hlen := h.ok.len
  obtain ⟨hp, hend⟩ := allT_path h.ok
  have hpl := hp.len
  have hpe := hp.end_le h.ok.use1.1
  unfold checkT
  simp only [eq_self, false_or, or_false, true_and, and_true, decide_eq_true_eq, decide_eq_false_iff_not, gd_st, gd_sf, exists_eq_left', exists_eq_left, Option.some.injEq, Sl.eta, Nat.reduceLeDiff, Int.reduceLE, Int.reduceLT, Int.reduceEq, Int.reduceNe, Nat.reduceMul, Nat.reduceAdd, Nat.reduceSub, Int.toNat_natCast, beq_iff_eq, bne_iff_ne, beq_eq_false_iff_ne, bne_eq_false_iff_eq, pick_and, pick_or, Bool.and_eq_true, Bool.or_eq_true, Bool.and_eq_false_iff, Bool.or_eq_false_iff, ne_eq, not_false_eq_true, Bool.not_eq_true', Bool.not_eq_false', reduceCtorEq, Nat.le_refl, Nat.zero_mul, Nat.mul_one, Nat.zero_add, Int.reduceToNat, ones, one, add_mk, Decidable.not_not, cond_true, cond_false, true_implies, false_implies, implies_true, Bool.not_true, Bool.not_false]
  refine ⟨(rall_spec h).mono ?_⟩
  rintro e w1 ⟨s, rfl, hsn, o1, x1⟩
  have a1 := h.ext x1
  refine ⟨s, _, rfl, _, a1.hd.cell 3, fun hne => ⟨by rw [if_neg (by omega)], x1⟩, fun heq => ⟨_, a1.hd.cell 0, ?_⟩⟩
  have en : IntKind.i64.wrap (IntKind.i64.wrap (2 * (A.n : Int)) + 1) = ((2 * A.n + 1 : Nat) : Int) := by
    rw [wrap_i64 (n := 2 * (A.n : Int)) (by omega) (by omega), wrap_i64 (by omega) (by omega)]; omega
  rw [en]
  refine ⟨by omega, fun w2 n2 => ?_⟩
  have k2 : Blk w2 w1.heap.size 4 (List.replicate (2 * A.n + 1) (.bool false)) := by
    have := Blk.new n2
    rw [zrow_one, Int.toNat_natCast] at this
    simpa only [List.toList_toArray] using this
  rw [Int.toNat_natCast]
  have z1 := x1.size
  refine ⟨by omega, k2.canSet 0 (by simp), fun w3 s3 => ?_⟩
  have k3 := s3.blk1 k2
  rw [marks_nil _ (by omega)] at k3
  have own' : ∀ {w' w'' : World} {T : Nat} {cs : List Value}, Own w' w.heap.size 84 5 s (objV (allT A).1) → Blk w' w1.heap.size 4 cs → Upd (fun k => k = w1.heap.size) w' w'' → Own w'' w.heap.size 84 5 s (objV (allT A).1) := fun o k u =>
    o.upd u fun p hp he => own_blk_ne o k (by decide) p hp he
  have ext' : ∀ {w' w'' : World}, Ext w w' → Upd (fun k => k = w1.heap.size) w' w'' → Ext w w'' := fun x u => x.fresh u (by rintro i rfl; exact z1)
  refine ⟨fun n w' => ∃ j : Nat, n = j ∧ j ≤ (allT A).1.length ∧ Blk w' w1.heap.size 4 (marks (2 * A.n + 1) ((allT A).1.take j)) ∧ Own w' w.heap.size 84 5 s (objV (allT A).1) ∧ Ext w w', fun n _ => (s.n - n).toNat, ⟨0, rfl, by omega, k3, own' (T := 0) (o1.ext n2.ext) k2 s3.upd, ext' (x1.trans n2.ext) s3.upd⟩, ?_⟩
  rintro _ n w4 ⟨j, rfl, hj, k4, o4, x4⟩
  refine ⟨fun hlt => ⟨by omega, hlt, ?_⟩, fun hge => ?_⟩
  · obtain ⟨o, ho⟩ : ∃ o, (allT A).1[j]? = some o := ⟨_, List.getElem?_eq_getElem (by omega)⟩
    obtain ⟨p, hpa, hc, _⟩ := o4.rd.obj ho
    have hat := hp.at_ o (List.mem_of_getElem? ho)
    rw [Int.toNat_natCast]
    refine ⟨p, hpa, _, hc, by omega, by omega, ?_⟩
    rw [Int.toNat_natCast]
    refine ⟨k4.canSet _ (by rw [marks_length]; omega), fun w5 s5 => ?_⟩
    have k5 := s5.blk1 k4
    rw [marks_snoc (by omega), ← take_snoc ho] at k5
    have ej : IntKind.i64.wrap ((j : Int) + 1) = ((j + 1 : Nat) : Int) := by rw [wrap_i64 (by omega) (by omega)]; omega
    rw [ej]
    exact ⟨⟨j + 1, rfl, by omega, k5, own' (T := 0) o4 k4 s5.upd, ext' x4 s5.upd⟩, by dsimp only; omega⟩
  have ejL : j = (allT A).1.length := by omega
  rw [ejL, List.take_length] at k4
  refine ⟨fun n w' => ∃ j : Nat, n = j ∧ j ≤ (allT A).1.length ∧ (∀ (i : Nat) (x : Ob), i < j → (allT A).1[i]? = some x → badT A (allT A).1 x = false) ∧ Blk w' w1.heap.size 4 (marks (2 * A.n + 1) (allT A).1) ∧ Own w' w.heap.size 84 5 s (objV (allT A).1) ∧ Ext w w', fun n _ => (s.n - n).toNat, ⟨0, rfl, by omega, fun i x h => absurd h (by omega), k4, o4, x4⟩, ?_⟩
  rintro _ n w5 ⟨j, rfl, hj, hno, k5, o5, x5⟩
  refine ⟨fun hlt => ?_, fun hge => ⟨by
    rw [if_pos (by omega), find_none fun i x hx => hno i x (by have := (List.getElem?_eq_some_iff.1 hx).1; omega) hx]; rfl, x5⟩⟩
  obtain ⟨o, ho⟩ : ∃ o, (allT A).1[j]? = some o := ⟨_, List.getElem?_eq_getElem (by omega)⟩
  have hat := hp.at_ o (List.mem_of_getElem? ho)
  have hin := stT_in hat.2.2
  have hl0 := hin.2.1.2.2.1
  have hl1 := hin.2.1.le
  have ej : IntKind.i64.wrap ((j : Int) + 1) = ((j + 1 : Nat) : Int) := by rw [wrap_i64 (by omega) (by omega)]; omega
  refine ⟨fun n w' => ∃ i : Nat, n = i ∧ i ≤ o.2.l.toNat ∧ (∀ i', i' < i → badC A (allT A).1 o i' = false) ∧ Blk w' w1.heap.size 4 (marks (2 * A.n + 1) (allT A).1) ∧ Own w' w.heap.size 84 5 s (objV (allT A).1) ∧ Ext w w', fun n _ => (o.2.l - n).toNat, ⟨0, rfl, by omega, fun i h => absurd h (by omega), k5, o5, x5⟩, ?_⟩
  rintro _ n w6 ⟨i, rfl, hil, hnc, k6, o6, x6⟩
  obtain ⟨p, hpa, hc0, hc1, hc2, hc3, hc4⟩ := o6.rd.obj ho
  rw [Int.toNat_natCast]
  refine ⟨by omega, hlt, p, hpa, _, hc3, fun hil2 => ⟨by omega, hlt, p, hpa, _, _, _, _, rfl, ⟨hc1, hc2, hc3, hc4⟩, ⟨(refs_spec o.2 hin.2.1 hil2 w6).mono ?_⟩⟩, fun hil2 => ?_⟩
  rotate_left
  · rw [ej]
    refine ⟨⟨j + 1, rfl, by omega, fun i' x hi' hx => ?_, k6, o6, x6⟩, by dsimp only; omega⟩
    rcases Nat.lt_or_ge i' j with h1 | h1
    · exact hno i' x h1 hx
    · obtain rfl : i' = j := by omega
      rw [ho] at hx; injection hx with hx; subst hx
      exact badT_false fun i'' hi'' => hnc i'' (by omega)
  rintro e w7 ⟨rfl, x7⟩
  have a7 := h.ext (x6.trans x7)
  have k7 := k6.ext x7
  have o7 := o6.ext x7
  obtain ⟨p7, hpa7, hd0, _⟩ := o7.rd.obj ho
  have ea : IntKind.i64.wrap (IntKind.i64.wrap (o.1 : Int) + (i : Int)) = ((o.1 + i : Nat) : Int) := by
    rw [wrap_i64 (n := (o.1 : Int)) (by omega) (by omega), wrap_i64 (by omega) (by omega)]; omega
  refine ⟨_, rfl, ⟨some ⟨b, 0, none⟩, A.ws.length, A.ws.length⟩, a7.hd.cell 1, by omega, hlt, p7, hpa7, _, hd0, ?_⟩
  rw [ea, Int.toNat_natCast]
  refine ⟨by omega, by show ((o.1 + i : Nat) : Int) < ((A.ws.length : Nat) : Int); omega, _, rfl, _, a7.wordAt (by omega), fun w8 q8 => ?_⟩
  have x8 := (x6.trans x7).trans q8.ext
  have k8 := k7.ext q8.ext
  have o8 := o7.ext q8.ext
  obtain ⟨p8, hpa8, hd8, _⟩ := o8.rd.obj ho
  have ei : IntKind.i64.wrap ((i : Int) + 1) = ((i + 1 : Nat) : Int) := by rw [wrap_i64 (by omega) (by omega)]; omega
  have el : IntKind.u64.wrap (((2 * A.n + 1 : Nat)) : Int) = ((2 * A.n + 1 : Nat) : Int) := wrap_u64 (by omega) (by omega)
  have er : IntKind.i64.wrap (IntKind.i64.wrap (o.1 : Int) - 1) = ((o.1 - 1 : Nat) : Int) := by
    rw [wrap_i64 (n := (o.1 : Int)) (by omega) (by omega), wrap_i64 (by omega) (by omega)]; omega
  rw [ei, el]
  have good : badC A (allT A).1 o i = false → (∃ i' : Nat, ((i + 1 : Nat) : Int) = i' ∧ i' ≤ o.2.l.toNat ∧ (∀ i'', i'' < i' → badC A (allT A).1 o i'' = false) ∧ Blk w8 w1.heap.size 4 (marks (2 * A.n + 1) (allT A).1) ∧ Own w8 w.heap.size 84 5 s (objV (allT A).1) ∧ Ext w w8) := fun hg =>
    ⟨i + 1, rfl, by omega, fun i'' hi'' => by
      rcases Nat.lt_or_ge i'' i with h1 | h1
      · exact hnc i'' h1
      · obtain rfl : i'' = i := by omega
        exact hg, k8, o8, x8⟩
  have bad : badC A (allT A).1 o i = true → 0 ≤ ((j : Nat) : Int) ∧ ((j : Nat) : Int) < (s.n : Int) ∧ ∃ p, s.a = some p ∧ ∃ n, w8.cell? ((p.add (j * 5)).add 0) = some (.int .u64 n) ∧ (Ending.returned (.tuple #[.int .i64 (IntKind.i64.wrap (IntKind.i64.wrap n - 1)), .int .i64 21]) = .returned (.tuple #[.int .i64 (((if (allT A).2 = A.use.e then match (allT A).1.find? (badT A (allT A).1) with | some o => (o.1 - 1, (21 : Int)) | none => (0, 0) else ((allT A).2, 21)) : Nat × Int).1 : Nat), .int .i64 ((if (allT A).2 = A.use.e then match (allT A).1.find? (badT A (allT A).1) with | some o => (o.1 - 1, (21 : Int)) | none => (0, 0) else ((allT A).2, 21)) : Nat × Int).2]) ∧ Ext w w8) := fun hb =>
    ⟨by omega, hlt, p8, hpa8, _, hd8, by
      rw [if_pos (by omega), find_at ho (badT_true (by omega) hb) hno, er], x8⟩
  have ebc : badC A (allT A).1 o i = (refT o.2 i && !thereT (allT A).1 (A.ws.getD (o.1 + i) 0)) := rfl
  refine ⟨fun hr => ⟨fun hle => ?_, fun hle => ?_⟩, fun hr => ⟨good (by rw [ebc, hr]; rfl), by dsimp only; omega⟩⟩
  · rw [Int.toNat_natCast]
    refine ⟨by omega, by omega, _, (k8.cell _).trans (marks_at (by omega)), fun ht => ?_, fun ht => ?_⟩
    · exact bad (by rw [ebc, hr, ht]; rfl)
    · exact ⟨good (by rw [ebc, hr, ht]; rfl), by dsimp only; omega⟩
  · refine bad ?_
    rw [ebc, hr]
    have : thereT (allT A).1 (A.ws.getD (o.1 + i) 0) = false := by
      unfold thereT
      rw [← Bool.not_eq_true]
      intro hh
      rcases Bool.or_eq_true_iff.1 hh with h1 | h1
      · have := beq_iff_eq.1 h1; omega
      · obtain ⟨o', h2, h3⟩ := List.any_eq_true.1 h1
        have := hp.at_ o' h2
        have := beq_iff_eq.1 h3; omega
    rw [this]; rfl
end Go.Proofs.Ytcmmdaginkhomaa.V
