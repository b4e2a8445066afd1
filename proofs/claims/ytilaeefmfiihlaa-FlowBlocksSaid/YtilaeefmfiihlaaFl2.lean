/-
  Next, of the program and of the document.
-/
import Derived.Test.YtilaeefmfiihlaaFl1
namespace Go.Proofs.Ytilaeefmfiihlaa.V
open Go Go.RowKit
set_option linter.unusedVariables false
set_option linter.unusedSimpArgs false
set_option maxRecDepth 100000

structure Ins where
  op : Int
  a : Int
  b : Int
abbrev insV (i : Ins) : List Value := [.int .i64 i.op, .int .i64 i.a, .int .i64 i.b]
def cdV (c : List Ins) : List Value := c.flatMap insV
theorem cdV_len : ∀ c : List Ins, (cdV c).length = c.length * 3
  | [] => rfl
  | x :: c => by
    have := cdV_len c
    unfold cdV at *
    simp only [List.flatMap_cons, List.length_append, List.length_cons, this, List.length_nil]
    omega
theorem cdV_get : ∀ {c : List Ins} {i : Nat} {x : Ins}, c[i]? = some x → ∀ j, j < 3 → (cdV c)[i * 3 + j]? = (insV x)[j]?
  | [], _, _, h, _, _ => by simp at h
  | y :: c, 0, x, h, j, hj => by
    simp at h; subst h
    unfold cdV
    rw [List.flatMap_cons, List.getElem?_append_left (by simp; omega), Nat.zero_mul, Nat.zero_add]
  | y :: c, i + 1, x, h, j, hj => by
    have ih := cdV_get (c := c) (i := i) (x := x) (by simpa using h) j hj
    unfold cdV at *
    rw [List.flatMap_cons, List.getElem?_append_right (by simp; omega), ← ih]
    congr 1
    simp
    omega
theorem cdV_append (a b : List Ins) : cdV (a ++ b) = cdV a ++ cdV b := by simp [cdV]
theorem cdV_ones (c : List Ins) : ∀ v ∈ cdV c, one v := by
  intro v hv
  unfold cdV at hv
  obtain ⟨x, _, hx⟩ := List.mem_flatMap.1 hv
  simp at hx
  rcases hx with rfl | rfl | rfl <;> trivial
def endsT (op : Int) : Bool := decide (op = 18 ∨ op = 21 ∨ op = 37)
def goesT (op : Int) : Bool := decide (op = 18 ∨ op = 19)
/-- may k come behind i? -/
def isNx (c : List Ins) (i k : Nat) : Bool := match c[i]? with
  | none => false
  | some x => decide ((goesT x.op = true ∧ x.a = (k : Int)) ∨ (endsT x.op = false ∧ k = i + 1))
def nxT (c : List Ins) (i : Nat) : List Nat := (List.range c.length).filter (isNx c i)
def castL (l : List Nat) : List Int := l.map (fun (k : Nat) => ((k : Nat) : Int))
def nextT (c : List Ins) (at_ : Int) : List Int := if 0 ≤ at_ ∧ at_ < c.length then castL (nxT c at_.toNat) else []
theorem castL_sorted {l : List Nat} (h : l.Pairwise (· < ·)) : (castL l).Pairwise (· < ·) := by
  unfold castL
  rw [List.pairwise_map]
  exact h.imp fun h => by omega
theorem nxT_sorted (c : List Ins) (i : Nat) : (nxT c i).Pairwise (· < ·) := List.Pairwise.filter _ List.pairwise_lt_range
theorem mem_nxT {c : List Ins} {i k : Nat} : k ∈ nxT c i ↔ k < c.length ∧ isNx c i k = true := by simp [nxT]
theorem mem_castL {l : List Nat} {v : Int} : v ∈ castL l ↔ ∃ k ∈ l, (k : Int) = v := by simp [castL]
theorem isNx_iff {c : List Ins} {i k : Nat} {x : Ins} (hx : c[i]? = some x) : isNx c i k = true ↔ (goesT x.op = true ∧ x.a = (k : Int)) ∨ (endsT x.op = false ∧ k = i + 1) := by
  unfold isNx; rw [hx]; simp
/-- sorted, and made compact -/
theorem cs2 {l : List Int} (h : l.length ≤ 2) : (Lib.compact (l.mergeSort fun x y => decide (x ≤ y))).Pairwise (· < ·) ∧ (∀ v, v ∈ Lib.compact (l.mergeSort fun x y => decide (x ≤ y)) ↔ v ∈ l) := by
  have hs : (l.mergeSort fun x y => decide (x ≤ y)).Pairwise (fun x y => decide (x ≤ y) = true) := List.pairwise_mergeSort (fun a b c h1 h2 => by simp at *; omega) (fun a b => by simp; omega) l
  have hm : ∀ v, v ∈ (l.mergeSort fun x y => decide (x ≤ y)) ↔ v ∈ l := fun v => List.mem_mergeSort
  have hl : (l.mergeSort fun x y => decide (x ≤ y)).length ≤ 2 := by rw [List.length_mergeSort]; exact h
  generalize (l.mergeSort fun x y => decide (x ≤ y)) = m at *
  match m, hl with
  | [], _ => rw [compact0]; exact ⟨.nil, hm⟩
  | [a], _ => rw [compact1]; exact ⟨List.pairwise_singleton _ _, hm⟩
  | [a, b], _ =>
    rw [compact2]
    simp at hs
    by_cases e : a = b
    · subst e; rw [if_pos rfl]; exact ⟨List.pairwise_singleton _ _, fun v => by rw [← hm]; simp⟩
    · rw [if_neg e]; exact ⟨by simp; omega, hm⟩
  | _ :: _ :: _ :: _, hl => simp at hl
section
variable {w w' : World} {B : Nat} {s code : Sl} {c : List Ins}
theorem Rd.ins (h : Rd w 3 s (cdV c)) {i : Nat} {x : Ins} (hx : c[i]? = some x) : ∃ p, s.a = some p ∧ (w.cell? ((p.add (i * 3)).add 0) = some (.int .i64 x.op) ∧ w.cell? ((p.add (i * 3)).add 1) = some (.int .i64 x.a) ∧ w.cell? ((p.add (i * 3)).add 2) = some (.int .i64 x.b)) := by
  have hlt := (List.getElem?_eq_some_iff.1 hx).1
  have hl := h.1
  rw [cdV_len] at hl
  obtain ⟨p, hp, hc⟩ := h.2 (by omega)
  refine ⟨p, hp, ?_, ?_, ?_⟩
  · rw [add_add]; exact hc _ _ (cdV_get hx 0 (by decide))
  · rw [add_add]; exact hc _ _ (cdV_get hx 1 (by decide))
  · rw [add_add]; exact hc _ _ (cdV_get hx 2 (by decide))
theorem Rd.lenc (h : Rd w 3 s (cdV c)) : s.n = c.length := by have := h.1; rw [cdV_len] at this; omega
theorem ends_spec (op : Int) (w : World) : Calls Try.prog 32 #[.int .i64 op] w fun e w' => e = .returned (.bool (endsT op)) ∧ w' = w := by
  refine vc_32 _ _ _ ?_
  simp only [eq_self, false_or, or_false, true_and, and_true, decide_eq_true_eq, decide_eq_false_iff_not, gd_st, gd_sf, exists_eq_left', exists_eq_left, Option.some.injEq, Sl.eta, Nat.reduceLeDiff, Int.reduceLE, Int.reduceLT, Int.reduceEq, Int.reduceNe, Nat.reduceMul, Nat.reduceAdd, Nat.reduceSub, Int.toNat_natCast, beq_iff_eq, bne_iff_ne, beq_eq_false_iff_ne, bne_eq_false_iff_eq, pick_and, pick_or, Bool.and_eq_true, Bool.or_eq_true, Bool.and_eq_false_iff, Bool.or_eq_false_iff, ne_eq, not_false_eq_true, Bool.not_eq_true', Bool.not_eq_false', reduceCtorEq, Nat.le_refl, Nat.zero_mul, Nat.mul_one, Nat.zero_add, Int.reduceToNat, ones, one, add_mk, Decidable.not_not, cond_true, cond_false, true_implies, false_implies, implies_true, Bool.not_true, Bool.not_false]
  unfold endsT
  refine ⟨fun h1 => ⟨fun h2 => ?_, fun h2 => by simp [h2]⟩, fun h1 => by simp [h1]⟩
  simp only [h1, h2, false_or]; rfl
theorem rends_spec (op : Int) (w : World) : Calls Try.prog 35 #[.int .i64 op] w fun e w' => e = .returned (.bool (endsT op)) ∧ w' = w := by
  refine vc_35 _ _ _ ?_
  simp only [eq_self, false_or, or_false, true_and, and_true, decide_eq_true_eq, decide_eq_false_iff_not, gd_st, gd_sf, exists_eq_left', exists_eq_left, Option.some.injEq, Sl.eta, Nat.reduceLeDiff, Int.reduceLE, Int.reduceLT, Int.reduceEq, Int.reduceNe, Nat.reduceMul, Nat.reduceAdd, Nat.reduceSub, Int.toNat_natCast, beq_iff_eq, bne_iff_ne, beq_eq_false_iff_ne, bne_eq_false_iff_eq, pick_and, pick_or, Bool.and_eq_true, Bool.or_eq_true, Bool.and_eq_false_iff, Bool.or_eq_false_iff, ne_eq, not_false_eq_true, Bool.not_eq_true', Bool.not_eq_false', reduceCtorEq, Nat.le_refl, Nat.zero_mul, Nat.mul_one, Nat.zero_add, Int.reduceToNat, ones, one, add_mk, Decidable.not_not, cond_true, cond_false, true_implies, false_implies, implies_true, Bool.not_true, Bool.not_false]
  unfold endsT
  refine ⟨fun h1 => ⟨fun h2 => ?_, fun h2 => by simp [h2]⟩, fun h1 => by simp [h1]⟩
  simp only [h1, h2, false_or]; rfl
theorem next_spec (h : Rd w 3 code (cdV c)) (hm : c.length ≤ 1000) (at_ : Int) :
    Calls Try.prog 18 #[.slice code.a code.n code.c, .int .i64 at_] w fun e w' => ∃ s : Sl, e = .returned (.slice s.a s.n s.c) ∧ Own w' w.heap.size 3 1 s (iv (nextT c at_)) ∧ Ext w w' := by
  refine vc_18 _ _ _ _ ?_
  have hn := h.lenc
  obtain ⟨w0, hw0⟩ : ∃ w0, w0 = w := ⟨_, rfl⟩
  simp only [eq_self, false_or, or_false, true_and, and_true, decide_eq_true_eq, decide_eq_false_iff_not, gd_st, gd_sf, exists_eq_left', exists_eq_left, Option.some.injEq, Sl.eta, Nat.reduceLeDiff, Int.reduceLE, Int.reduceLT, Int.reduceEq, Int.reduceNe, Nat.reduceMul, Nat.reduceAdd, Nat.reduceSub, Int.toNat_natCast, beq_iff_eq, bne_iff_ne, beq_eq_false_iff_ne, bne_eq_false_iff_eq, pick_and, pick_or, Bool.and_eq_true, Bool.or_eq_true, Bool.and_eq_false_iff, Bool.or_eq_false_iff, ne_eq, not_false_eq_true, Bool.not_eq_true', Bool.not_eq_false', reduceCtorEq, Nat.le_refl, Nat.zero_mul, Nat.mul_one, Nat.zero_add, Int.reduceToNat, ones, one, add_mk, Decidable.not_not, cond_true, cond_false, true_implies, false_implies, implies_true, Bool.not_true, Bool.not_false]
  refine ⟨fun h0 => ⟨fun h1 => ?_, fun h1 => ⟨by omega, by omega, ?_⟩⟩, fun h0 => ?_⟩
  · have : nextT c at_ = [] := by unfold nextT; rw [if_neg (by omega)]
    rw [this]
    exact ⟨⟨none, 0, 0⟩, rfl, Own.nil _ _ _ _, Ext.refl _⟩
  rotate_left
  · have : nextT c at_ = [] := by unfold nextT; rw [if_neg (by omega)]
    rw [this]
    exact ⟨⟨none, 0, 0⟩, rfl, Own.nil _ _ _ _, Ext.refl _⟩
  obtain ⟨i, rfl⟩ : ∃ i : Nat, at_ = (i : Nat) := ⟨at_.toNat, by omega⟩
  obtain ⟨x, hx⟩ : ∃ x, c[i]? = some x := ⟨_, List.getElem?_eq_getElem (by omega)⟩
  obtain ⟨p, hp, hc⟩ := h.ins hx
  have hN : nextT c (i : Nat) = castL (nxT c i) := by unfold nextT; rw [if_pos ⟨by omega, by omega⟩, Int.toNat_natCast]
  have ei : IntKind.i64.wrap ((i : Int) + 1) = ((i + 1 : Nat) : Int) := by rw [wrap_i64 (by omega) (by omega)]; omega
  have hlast : ∀ l : List Int, l.length ≤ 2 → (∀ v : Int, v ∈ l ↔ ∃ k : Nat, (k : Int) = v ∧ k < c.length ∧ ((goesT x.op = true ∧ x.a = (k : Int)) ∨ (endsT x.op = false ∧ k = i + 1))) → Lib.compact (l.mergeSort fun x y => decide (x ≤ y)) = nextT c (i : Nat) := fun l h2 hv => by
    rw [hN]
    obtain ⟨c1, c2⟩ := cs2 h2
    refine eq_of_sorted_mem c1 (castL_sorted (nxT_sorted c i)) fun v => ?_
    rw [c2 v, hv v, mem_castL]
    exact ⟨fun ⟨k, e, h3, h4⟩ => ⟨k, mem_nxT.2 ⟨h3, (isNx_iff hx).2 h4⟩, e⟩, fun ⟨k, h3, e⟩ => ⟨k, e, (mem_nxT.1 h3).1, (isNx_iff hx).1 (mem_nxT.1 h3).2⟩⟩
  refine ⟨p, hp, _, _, _, rfl, by rw [Int.toNat_natCast]; exact hc, fun w1 n1 => ⟨rfl, (Blk.new n1).canSetN 0 3 (by simp), fun w2 s2 => ?_⟩⟩
  rw [ei]
  have B2 : Blk w2 w.heap.size 47 (insV x) := s2.blk (Blk.new n1)
  have x02 : Ext w w2 := n1.ext.fresh s2.upd (by rintro j rfl; exact Nat.le_refl _)
  have z2 := x02.size
  let l0 : List Int := if endsT x.op = false ∧ i + 1 < c.length then [((i + 1 : Nat) : Int)] else []
  have hl0 : l0.length ≤ 1 := by show (if _ then _ else _ : List Int).length ≤ 1; split <;> simp
  refine ⟨fun sl w' => Own w' w.heap.size 3 1 sl (iv l0) ∧ Ext w2 w', ⟨_, B2.cell 0, ⟨(ends_spec x.op w2).mono ?_⟩⟩, ?_⟩
  · rintro e w3 ⟨rfl, rfl⟩
    refine ⟨_, rfl, fun hb => ⟨fun hlt w4 n4 => ?_, fun hge => ⟨?_, Ext.refl _⟩⟩, fun hb => ⟨?_, Ext.refl _⟩⟩
    · have z4 := n4.size
      have rd : Rd w4 1 ⟨some ⟨w3.heap.size, 0, none⟩, 1, 1⟩ (iv [((i + 1 : Nat) : Int)]) := (Blk.new n4).rd (z := 1) (o := 0) (n := 1) (c := 1) (by simp)
      obtain ⟨s', w5, hr, hrn, o5, u5, _⟩ := (Own.nil w4 w.heap.size 3 1).append (t := 30) (ty := 30) tab_ok (by rfl) (by rfl) (by decide) rd (iv_ones _) (by dsimp only; omega) (by dsimp only; omega) (by omega)
      refine ⟨s', w5, hr, ?_, n4.ext.fresh u5 (by rintro j ⟨q, hq, _⟩; cases hq)⟩
      have : l0 = [((i + 1 : Nat) : Int)] := if_pos ⟨hb, by omega⟩
      rw [this]; exact o5
    · have : l0 = [] := if_neg (by omega)
      rw [this]; exact Own.nil _ _ _ _
    · have : l0 = [] := if_neg (by rw [hb]; simp)
      rw [this]; exact Own.nil _ _ _ _
  rintro _ sl w3 ⟨o3, x3⟩
  have B3 := B2.ext x3
  have z3 := x3.size
  have hsn := o3.rd.leni
  -- the last steps
  have fin : ∀ (l1 : List Int) (s1 : Sl) (w4 : World), Own w4 w.heap.size 3 1 s1 (iv l1) → Ext w w4 → l1.length ≤ 2 → (∀ v : Int, v ∈ l1 ↔ ∃ k : Nat, (k : Int) = v ∧ k < c.length ∧ ((goesT x.op = true ∧ x.a = (k : Int)) ∨ (endsT x.op = false ∧ k = i + 1))) →
      CallW Try.prog 33 #[.slice s1.a s1.n s1.c] w4 fun e wa => ∃ v, e = .returned v ∧ CallW Try.prog 34 #[.slice s1.a s1.n s1.c] wa fun e w5 => ∃ s' : Sl, e = .returned (.slice s'.a s'.n s'.c) ∧ (∃ s'' : Sl, Ending.returned (.slice s'.a s'.n s'.c) = .returned (.slice s''.a s''.n s''.c) ∧ Own w5 w.heap.size 3 1 s'' (iv (nextT c (i : Nat))) ∧ Ext w w5) := by
    intro l1 s1 w4 o4 x4 h4 hv
    refine ⟨(sort_spec o4 (by omega)).mono ?_⟩
    rintro e w5 ⟨v, rfl, o5, u5⟩
    refine ⟨v, rfl, ⟨(compact_spec o5 (by rw [List.length_mergeSort]; exact h4)).mono ?_⟩⟩
    rintro e w6 ⟨s', rfl, o6, u6, ha⟩
    rw [hlast l1 h4 hv] at o6
    exact ⟨s', rfl, s', rfl, o6, (x4.fresh u5 (by rintro j ⟨q, hq, rfl⟩; exact (o4.base q hq).1)).fresh u6 (by rintro j ⟨q, hq, rfl⟩; exact (o5.base q hq).1)⟩
  have x03 := x02.trans x3
  -- where it does not go
  have no : (goesT x.op = false ∨ ¬ (0 ≤ x.a) ∨ ¬ x.a < (c.length : Int)) → ∀ v : Int, v ∈ l0 ↔ ∃ k : Nat, (k : Int) = v ∧ k < c.length ∧ ((goesT x.op = true ∧ x.a = (k : Int)) ∨ (endsT x.op = false ∧ k = i + 1)) := by
    intro hg v
    show v ∈ (if _ then _ else _ : List Int) ↔ _
    split
    · rename_i hh
      rw [List.mem_singleton]
      refine ⟨fun e => ⟨i + 1, e.symm, hh.2, .inr ⟨hh.1, rfl⟩⟩, ?_⟩
      rintro ⟨k, e, hk, h | h⟩
      · rcases hg with hg | hg | hg
        · rw [hg] at h; cases h.1
        · omega
        · omega
      · omega
    · rename_i hh
      simp only [List.not_mem_nil, false_iff]
      rintro ⟨k, e, hk, h | h⟩
      · rcases hg with hg | hg | hg
        · rw [hg] at h; cases h.1
        · omega
        · omega
      · exact hh ⟨h.1, by omega⟩
  -- where it goes
  have yes : goesT x.op = true → 0 ≤ x.a → x.a < (c.length : Int) → ∀ v : Int, v ∈ l0 ++ [x.a] ↔ ∃ k : Nat, (k : Int) = v ∧ k < c.length ∧ ((goesT x.op = true ∧ x.a = (k : Int)) ∨ (endsT x.op = false ∧ k = i + 1)) := by
    intro hg h0 h1 v
    rw [List.mem_append, List.mem_singleton]
    constructor
    · rintro (h | rfl)
      · have h' : v ∈ (if endsT x.op = false ∧ i + 1 < c.length then [((i + 1 : Nat) : Int)] else []) := h
        split at h'
        · rename_i hh
          rw [List.mem_singleton] at h'
          exact ⟨i + 1, h'.symm, hh.2, .inr ⟨hh.1, rfl⟩⟩
        · cases h'
      · exact ⟨x.a.toNat, by omega, by omega, .inl ⟨hg, by omega⟩⟩
    · rintro ⟨k, e, hk, h | h⟩
      · exact .inr (by omega)
      · refine .inl ?_
        show v ∈ (if endsT x.op = false ∧ i + 1 < c.length then [((i + 1 : Nat) : Int)] else [])
        rw [if_pos ⟨h.1, by omega⟩, List.mem_singleton]
        omega
  have app : goesT x.op = true → (0 ≤ x.a → (x.a < (code.n : Int) → ∀ w1, NewW w3 (.cells #[.int .i64 x.a] 3) w1 → ∃ (s1 : Sl) (w' : World), Runs Try.prog (Builtin.append_ #[30, 30] 30 #[.slice sl.a sl.n sl.c, .slice (some ⟨w3.heap.size, 0, none⟩) 1 1]) w1 (.slice s1.a s1.n s1.c) w' ∧
      CallW Try.prog 33 #[.slice s1.a s1.n s1.c] w' fun e wa => ∃ v, e = .returned v ∧ CallW Try.prog 34 #[.slice s1.a s1.n s1.c] wa fun e w5 => ∃ s' : Sl, e = .returned (.slice s'.a s'.n s'.c) ∧ (∃ s'' : Sl, Ending.returned (.slice s'.a s'.n s'.c) = .returned (.slice s''.a s''.n s''.c) ∧ Own w5 w.heap.size 3 1 s'' (iv (nextT c (i : Nat))) ∧ Ext w w5))) := by
    intro hg h0 h1 w4 n4
    have z4 := n4.size
    have rd : Rd w4 1 ⟨some ⟨w3.heap.size, 0, none⟩, 1, 1⟩ (iv [x.a]) := (Blk.new n4).rd (z := 1) (o := 0) (n := 1) (c := 1) (by simp)
    obtain ⟨s', w5, hr, hrn, o5, u5, _⟩ := (o3.ext n4.ext).append (t := 30) (ty := 30) tab_ok (by rfl) (by rfl) (by decide) rd (iv_ones _) (by dsimp only; omega) (by dsimp only; omega) (by omega)
    refine ⟨s', w5, hr, fin (l0 ++ [x.a]) s' w5 (by rw [iv_append]; exact o5) ((x03.trans n4.ext).fresh u5 (by rintro j ⟨q, hq, rfl⟩; exact (o3.base q hq).1)) (by rw [List.length_append]; simp; omega) (yes hg h0 (by omega))⟩
  refine ⟨_, B3.cell 1, _, B3.cell 0, fun h18 => ⟨_, B3.cell 0, fun h19 => ⟨fun h0 => ⟨fun h1 => app (by unfold goesT; simp [h19]) h0 h1, fun h1 => fin l0 sl w3 o3 x03 (by omega) (no (.inr (.inr (by omega))))⟩, fun h0 => fin l0 sl w3 o3 x03 (by omega) (no (.inr (.inl h0)))⟩, fun h19 => fin l0 sl w3 o3 x03 (by omega) (no (.inl (by unfold goesT; simp [h18, h19])))⟩, fun h18 => ⟨fun h0 => ⟨fun h1 => app (by unfold goesT; simp [h18]) h0 h1, fun h1 => fin l0 sl w3 o3 x03 (by omega) (no (.inr (.inr (by omega))))⟩, fun h0 => fin l0 sl w3 o3 x03 (by omega) (no (.inr (.inl h0)))⟩⟩
theorem rnext_spec (h : Rd w 3 code (cdV c)) (hm : c.length ≤ 1000) (at_ : Int) :
    Calls Try.prog 20 #[.slice code.a code.n code.c, .int .i64 at_] w fun e w' => ∃ s : Sl, e = .returned (.slice s.a s.n s.c) ∧ Own w' w.heap.size 3 1 s (iv (nextT c at_)) ∧ Ext w w' := by
  refine vc_20 _ _ _ _ ?_
  have hn := h.lenc
  simp only [eq_self, false_or, or_false, true_and, and_true, decide_eq_true_eq, decide_eq_false_iff_not, gd_st, gd_sf, exists_eq_left', exists_eq_left, Option.some.injEq, Sl.eta, Nat.reduceLeDiff, Int.reduceLE, Int.reduceLT, Int.reduceEq, Int.reduceNe, Nat.reduceMul, Nat.reduceAdd, Nat.reduceSub, Int.toNat_natCast, beq_iff_eq, bne_iff_ne, beq_eq_false_iff_ne, bne_eq_false_iff_eq, pick_and, pick_or, Bool.and_eq_true, Bool.or_eq_true, Bool.and_eq_false_iff, Bool.or_eq_false_iff, ne_eq, not_false_eq_true, Bool.not_eq_true', Bool.not_eq_false', reduceCtorEq, Nat.le_refl, Nat.zero_mul, Nat.mul_one, Nat.zero_add, Int.reduceToNat, ones, one, add_mk, Decidable.not_not, cond_true, cond_false, true_implies, false_implies, implies_true, Bool.not_true, Bool.not_false]
  refine ⟨fun h0 => ⟨fun h1 => ?_, fun h1 => ⟨by omega, by omega, ?_⟩⟩, fun h0 => ?_⟩
  · have : nextT c at_ = [] := by unfold nextT; rw [if_neg (by omega)]
    rw [this]
    exact ⟨⟨none, 0, 0⟩, rfl, Own.nil _ _ _ _, Ext.refl _⟩
  rotate_left
  · have : nextT c at_ = [] := by unfold nextT; rw [if_neg (by omega)]
    rw [this]
    exact ⟨⟨none, 0, 0⟩, rfl, Own.nil _ _ _ _, Ext.refl _⟩
  obtain ⟨i, rfl⟩ : ∃ i : Nat, at_ = (i : Nat) := ⟨at_.toNat, by omega⟩
  obtain ⟨x, hx⟩ : ∃ x, c[i]? = some x := ⟨_, List.getElem?_eq_getElem (by omega)⟩
  obtain ⟨p, hp, hc⟩ := h.ins hx
  have hN : nextT c (i : Nat) = castL (nxT c i) := by unfold nextT; rw [if_pos ⟨by omega, by omega⟩, Int.toNat_natCast]
  have ei : IntKind.i64.wrap ((i : Int) + 1) = ((i + 1 : Nat) : Int) := by rw [wrap_i64 (by omega) (by omega)]; omega
  refine ⟨p, hp, _, _, _, rfl, by rw [Int.toNat_natCast]; exact hc, fun w1 n1 => ⟨rfl, (Blk.new n1).canSetN 0 3 (by simp), fun w2 s2 => ?_⟩⟩
  rw [ei]
  have B2 : Blk w2 w.heap.size 47 (insV x) := s2.blk (Blk.new n1)
  have x02 : Ext w w2 := n1.ext.fresh s2.upd (by rintro j rfl; exact Nat.le_refl _)
  have z2 := x02.size
  refine ⟨_, B2.cell 0, ⟨(rends_spec x.op w2).mono ?_⟩⟩
  rintro e w3 ⟨rfl, rfl⟩
  refine ⟨_, rfl, fun b w' => b = goesT x.op ∧ w' = w3, ⟨_, B2.cell 0, fun h18 => ⟨_, B2.cell 0, ?_, rfl⟩, fun h18 => ⟨by unfold goesT; simp [h18], rfl⟩⟩, ?_⟩
  · unfold goesT; simp only [h18, false_or]; rfl
  rintro _ b w4 ⟨rfl, rfl⟩
  refine ⟨fun sl n w' => ∃ k : Nat, n = (k : Nat) ∧ k ≤ c.length ∧ Own w' w4.heap.size 3 1 sl (iv (castL ((List.range k).filter (isNx c i)))) ∧ Ext w4 w', fun _ n _ => (c.length - n).toNat, ⟨0, rfl, Nat.zero_le _, Own.nil _ _ _ _, Ext.refl _⟩, ?_⟩
  rintro _ sl n w5 ⟨k, rfl, hk, o5, x5⟩
  have ek : IntKind.i64.wrap ((k : Int) + 1) = ((k + 1 : Nat) : Int) := by rw [wrap_i64 (by omega) (by omega)]; omega
  rw [ek]
  have z5 := x5.size
  have B5 := B2.ext x5
  have hsn := o5.rd.leni
  have hfl : ((List.range k).filter (isNx c i)).length ≤ k := by
    have := List.length_filter_le (isNx c i) (List.range k)
    rwa [List.length_range] at this
  have hcl : (castL ((List.range k).filter (isNx c i))).length ≤ k := by unfold castL; rw [List.length_map]; exact hfl
  refine ⟨fun hlt => ?_, fun hge => ?_⟩
  · have kin : isNx c i k = true → ∀ w6, NewW w5 (.cells #[.int .i64 (k : Nat)] 3) w6 → ∃ (s1 : Sl) (w' : World), Runs Try.prog (Builtin.append_ #[30, 30] 30 #[.slice sl.a sl.n sl.c, .slice (some ⟨w5.heap.size, 0, none⟩) 1 1]) w6 (.slice s1.a s1.n s1.c) w' ∧
        (∃ k' : Nat, ((k + 1 : Nat) : Int) = (k' : Nat) ∧ k' ≤ c.length ∧ Own w' w4.heap.size 3 1 s1 (iv (castL ((List.range k').filter (isNx c i)))) ∧ Ext w4 w') ∧ ((c.length : Int) - ((k + 1 : Nat) : Int)).toNat < ((c.length : Int) - (k : Nat)).toNat := by
      intro hk' w6 n6
      have z6 := n6.size
      have rd : Rd w6 1 ⟨some ⟨w5.heap.size, 0, none⟩, 1, 1⟩ (iv [(k : Int)]) := (Blk.new n6).rd (z := 1) (o := 0) (n := 1) (c := 1) (by simp)
      obtain ⟨s', w7, hr, hrn, o7, u7, _⟩ := (o5.ext n6.ext).append (t := 30) (ty := 30) tab_ok (by rfl) (by rfl) (by decide) rd (iv_ones _) (by dsimp only; omega) (by dsimp only; omega) (by omega)
      refine ⟨s', w7, hr, ⟨k + 1, rfl, by omega, ?_, (x5.trans n6.ext).fresh u7 (by rintro j ⟨q, hq, rfl⟩; have := (o5.base q hq).1; omega)⟩, by omega⟩
      rw [List.range_succ, List.filter_append, List.filter_cons, if_pos hk', List.filter_nil]
      unfold castL at o7 ⊢
      rw [List.map_append, iv_append]
      exact o7
    have kout : isNx c i k = false → (∃ k' : Nat, ((k + 1 : Nat) : Int) = (k' : Nat) ∧ k' ≤ c.length ∧ Own w5 w4.heap.size 3 1 sl (iv (castL ((List.range k').filter (isNx c i)))) ∧ Ext w4 w5) ∧ ((c.length : Int) - ((k + 1 : Nat) : Int)).toNat < ((c.length : Int) - (k : Nat)).toNat := by
      intro hk'
      refine ⟨⟨k + 1, rfl, by omega, ?_, x5⟩, by omega⟩
      rw [List.range_succ, List.filter_append, List.filter_cons, if_neg (by rw [hk']; decide), List.filter_nil, List.append_nil]
      exact o5
    have inx : isNx c i k = decide ((goesT x.op = true ∧ x.a = (k : Int)) ∨ (endsT x.op = false ∧ k = i + 1)) := by unfold isNx; rw [hx]
    refine ⟨fun hg => ⟨_, B5.cell 1, fun hne => ⟨fun he => ⟨fun e => kin ?_, fun e => kout ?_⟩, fun he => kout ?_⟩, fun hE => kin ?_⟩, fun hg => ⟨fun he => ⟨fun e => kin ?_, fun e => kout ?_⟩, fun he => kout ?_⟩⟩
    · rw [inx]; exact decide_eq_true (.inr ⟨he, by omega⟩)
    · rw [inx]; exact decide_eq_false (by rintro (h | h) <;> omega)
    · rw [inx]; exact decide_eq_false (by rintro (h | h); · omega
                                          · rw [he] at h; cases h.1)
    · rw [inx]; exact decide_eq_true (.inl ⟨hg, hE⟩)
    · rw [inx]; exact decide_eq_true (.inr ⟨he, by omega⟩)
    · rw [inx]; exact decide_eq_false (by rintro (h | h); · rw [hg] at h; cases h.1
                                          · omega)
    · rw [inx]; exact decide_eq_false (by rintro (h | h); · rw [hg] at h; cases h.1
                                          · rw [he] at h; cases h.1)
  · have : k = c.length := by omega
    subst this
    rw [hN]
    exact ⟨sl, rfl, o5.mono (by omega), x02.trans x5⟩
end
end Go.Proofs.Ytilaeefmfiihlaa.V
