/-
  Lists of at most two sorted and made compact; lists turned round; copies; lists compared.
-/
import Derived.Test.YtilaeefmfiihlaaOwn2
import Derived.Test.YtilaeefmfiihlaaClr
import Derived.Test.YtilaeefmfiihlaaVcA
import Derived.Test.YtilaeefmfiihlaaShelf
namespace Go.Proofs.Ytilaeefmfiihlaa.V
open Go Go.RowKit
set_option linter.unusedVariables false
set_option linter.unusedSimpArgs false
set_option maxRecDepth 100000

theorem Ext.toS {w w' : World} {S : Nat → Prop} (x : Ext w w') : Upd S w w' := Upd.mono x fun _ _ _ => not_false
/-- the block of a slice -/
def Sl.own (s : Sl) : Nat → Prop := fun k => ∃ p, s.a = some p ∧ k = p.block
theorem eq_of_sorted_mem : ∀ {a b : List Int}, a.Pairwise (· < ·) → b.Pairwise (· < ·) → (∀ x, x ∈ a ↔ x ∈ b) → a = b
  | [], [], _, _, _ => rfl
  | [], y :: b, _, _, h => by have := (h y).2 (List.mem_cons_self ..); cases this
  | x :: a, [], _, _, h => by have := (h x).1 (List.mem_cons_self ..); cases this
  | x :: a, y :: b, ha, hb, h => by
    rw [List.pairwise_cons] at ha hb
    have hxy : x = y := by
      rcases List.mem_cons.1 ((h x).1 (List.mem_cons_self ..)) with e | e
      · exact e
      · rcases List.mem_cons.1 ((h y).2 (List.mem_cons_self ..)) with e' | e'
        · exact e'.symm
        · have := hb.1 x e; have := ha.1 y e'; omega
    subst hxy
    rw [eq_of_sorted_mem ha.2 hb.2 fun z => ?_]
    constructor
    · intro hz
      rcases List.mem_cons.1 ((h z).1 (List.mem_cons_of_mem _ hz)) with e | e
      · subst e; have := ha.1 z hz; omega
      · exact e
    · intro hz
      rcases List.mem_cons.1 ((h z).2 (List.mem_cons_of_mem _ hz)) with e | e
      · subst e; have := hb.1 z hz; omega
      · exact e
theorem put_blk {w : World} {g T : Nat} {cs : List Value} (h : Blk w g T cs) (l : List Int) (hl : l.length ≤ cs.length) (n : Nat) (os : Array Obj) :
    Blk (Sort.grow (Sort.putRow (Value.int .i64) (Sort.ahead w n) g 0 l.toArray) os) g T (iv l ++ cs.drop l.length) ∧ Upd (· = g) w (Sort.grow (Sort.putRow (Value.int .i64) (Sort.ahead w n) g 0 l.toArray) os) := by
  have hlt := h.lt
  have hsz : (w.heap.modify g (Sort.onCells (Sort.putCells (Value.int .i64) 0 l.toArray))).size = w.heap.size := by simp
  refine ⟨?_, rfl, rfl, rfl, ?_, fun k hk hne => ?_⟩
  · unfold Blk at h ⊢
    show (w.heap.modify g (Sort.onCells (Sort.putCells (Value.int .i64) 0 l.toArray)) ++ os)[g]? = _
    rw [Array.getElem?_append_left (by rw [hsz]; exact hlt), Array.getElem?_modify, if_pos rfl, h]
    simp only [Option.map_some, Sort.onCells]
    congr 2
    apply Array.ext'
    apply List.ext_getElem?
    intro i
    unfold Sort.putCells
    simp only [Array.toList_mapIdx, List.getElem?_mapIdx]
    by_cases hi : i < l.length
    · rw [List.getElem?_append_left (by rw [iv_length]; exact hi), iv, List.getElem?_map, List.getElem?_eq_getElem hi, List.getElem?_eq_getElem (by omega)]
      simp [hi]
    · rw [List.getElem?_append_right (by rw [iv_length]; omega), iv_length, List.getElem?_drop, show l.length + (i - l.length) = i by omega]
      cases hc : cs[i]? with
      | none => rfl
      | some v => simp [hi]
  · show w.heap.size ≤ (w.heap.modify g (Sort.onCells (Sort.putCells (Value.int .i64) 0 l.toArray)) ++ os).size
    rw [Array.size_append, hsz]; omega
  · show (w.heap.modify g (Sort.onCells (Sort.putCells (Value.int .i64) 0 l.toArray)) ++ os)[k]? = _
    rw [Array.getElem?_append_left (by rw [hsz]; exact hk), Array.getElem?_modify, if_neg (fun e => hne e.symm)]
section
variable {w w' : World} {B : Nat} {s : Sl} {l : List Int}
/-- a row written whole -/
theorem Own.put {g T : Nat} (h : Own w B 3 1 s (iv l)) {p : Addr} (hp : s.a = some p) (l' : List Int) (hl : l'.length = l.length) (n : Nat) (os : Array Obj) :
    Own (Sort.grow (Sort.putRow (Value.int .i64) (Sort.ahead w n) p.block 0 l'.toArray) os) B 3 1 s (iv l') ∧ Upd s.own w (Sort.grow (Sort.putRow (Value.int .i64) (Sort.ahead w n) p.block 0 l'.toArray) os) := by
  obtain ⟨g, cs, ha, hB, hb, hn, hc, hcl, ht⟩ := h.blk (by rw [hp]; simp)
  rw [hp] at ha; injection ha with ha; subst ha
  have hln := h.rd.leni
  obtain ⟨h1, h2⟩ := put_blk hb l' (by omega) n os
  refine ⟨?_, h2.mono fun k _ hk he => hk ⟨_, hp, he⟩⟩
  have := Own.of_blk (s := s) (z := 1) h1 hB hp hn hc (by rw [List.length_append, iv_length, List.length_drop]; omega)
  rw [List.take_append_of_le_length (by rw [iv_length]; omega), List.take_of_length_le (by rw [iv_length]; omega)] at this
  exact this
theorem Own.holds (h : Own w B 3 1 s (iv l)) {p : Addr} (hp : s.a = some p) : p = ⟨p.block, 0, none⟩ ∧ p.block < w.heap.size ∧ Sort.Holds (Value.int .i64) w p.block 0 l.toArray := by
  obtain ⟨g, cs, ha, hB, hb, hn, hc, hcl, ht⟩ := h.blk (by rw [hp]; simp)
  rw [hp] at ha; injection ha with ha; subst ha
  refine ⟨rfl, hb.lt, fun j hj => ⟨?_, hb.frozen _⟩⟩
  have hj' : j < l.length := by simpa using hj
  have hln := h.rd.leni
  rw [hb.cell, Nat.zero_add]
  have : (cs.take (s.n * 1))[j]? = (iv l)[j]? := by rw [ht]
  rw [List.getElem?_take, if_pos (by omega)] at this
  rw [this, iv, List.getElem?_map, List.getElem?_eq_getElem hj']
  simp [hj']
theorem reverse_spec (h : Own w B 3 1 s (iv l)) (hm : l.length ≤ 1000000) :
    Calls Try.prog 40 #[.slice s.a s.n s.c] w fun e w' => e = .returned (.tuple #[]) ∧ Own w' B 3 1 s (iv l.reverse) ∧ Upd s.own w w' := by
  have hln := h.rd.leni
  cases hs : s.a with
  | none =>
    obtain ⟨rfl, hx⟩ := h.none_ hs
    have : l = [] := by cases l with | nil => rfl | cons => simp [iv] at hx
    subst this
    refine (Try.slices_Reverse_int_empty _ _ _).mono ?_
    rintro e w' ⟨rfl, rfl⟩
    exact ⟨rfl, h, Upd.refl _ _⟩
  | some p =>
    obtain ⟨hp, _, hh⟩ := h.holds hs
    have := Try.slices_Reverse_int p.block 0 s.c l w hh (by omega)
    rw [← hp, hln] at this
    refine this.mono ?_
    rintro e w' ⟨rfl, n, rfl⟩
    have := h.put (g := 0) (T := 0) hs l.reverse (by simp) n #[]
    have e0 : ∀ x : World, Sort.grow x #[] = x := fun x => by unfold Sort.grow; rw [Array.append_empty]
    rw [e0] at this
    exact ⟨rfl, this⟩
theorem sort_spec (h : Own w B 3 1 s (iv l)) (hm : l.length ≤ 1000000) :
    Calls Try.prog 33 #[.slice s.a s.n s.c] w fun e w' => ∃ v, e = .returned v ∧ Own w' B 3 1 s (iv (l.mergeSort fun x y => decide (x ≤ y))) ∧ Upd s.own w w' := by
  have hln := h.rd.leni
  cases hs : s.a with
  | none =>
    obtain ⟨rfl, hx⟩ := h.none_ hs
    have : l = [] := by cases l with | nil => rfl | cons => simp [iv] at hx
    subst this
    refine (Try.slices_Sort_int_none _ _ _).mono ?_
    rintro e w' ⟨rfl, rfl⟩
    exact ⟨_, rfl, by simpa using h, Upd.refl _ _⟩
  | some p =>
    obtain ⟨hp, hlt, hh⟩ := h.holds hs
    have := Try.slices_Sort_int p.block 0 s.c l w hh hlt (by omega)
    rw [← hp, hln] at this
    refine this.mono ?_
    rintro e w' ⟨rfl, n, os, rfl⟩
    exact ⟨_, rfl, h.put (g := 0) (T := 0) hs _ (by simp) n os⟩
theorem compact2 (a b : Int) : Lib.compact [a, b] = if a = b then [a] else [a, b] := by
  unfold Lib.compact Lib.compactUpTo
  by_cases h : a = b
  · simp [h, List.range_succ, Lib.keeps]
  · have h' : ¬ b = a := fun e => h e.symm
    simp [h, h', List.range_succ, Lib.keeps, List.filter_cons]
theorem compact1 (a : Int) : Lib.compact [a] = [a] := by
  unfold Lib.compact Lib.compactUpTo
  simp [List.range_succ, Lib.keeps]
theorem compact0 : Lib.compact ([] : List Int) = [] := rfl
theorem compact_spec (h : Own w B 3 1 s (iv l)) (hm : l.length ≤ 2) :
    Calls Try.prog 34 #[.slice s.a s.n s.c] w fun e w' => ∃ s' : Sl, e = .returned (.slice s'.a s'.n s'.c) ∧ Own w' B 3 1 s' (iv (Lib.compact l)) ∧ Upd s.own w w' ∧ s'.a = s.a := by
  have hln := h.rd.leni
  cases hs : s.a with
  | none =>
    obtain ⟨rfl, hx⟩ := h.none_ hs
    have : l = [] := by cases l with | nil => rfl | cons => simp [iv] at hx
    subst this
    refine vc_34 ⟨none, 0, 0⟩ _ _ ?_
    simp only [eq_self, false_or, or_false, true_and, and_true, decide_eq_true_eq, decide_eq_false_iff_not, gd_st, gd_sf, exists_eq_left', exists_eq_left, Option.some.injEq, Sl.eta, Nat.reduceLeDiff, Int.reduceLE, Int.reduceLT, Int.reduceEq, Int.reduceNe, Nat.reduceMul, Nat.reduceAdd, Nat.reduceSub, Int.toNat_natCast, beq_iff_eq, bne_iff_ne, beq_eq_false_iff_ne, bne_eq_false_iff_eq, pick_and, pick_or, Bool.and_eq_true, Bool.or_eq_true, Bool.and_eq_false_iff, Bool.or_eq_false_iff, ne_eq, not_false_eq_true, Bool.not_eq_true', Bool.not_eq_false', reduceCtorEq, Nat.le_refl, Nat.zero_mul, Nat.mul_one, Nat.zero_add, Int.reduceToNat, ones, one, add_mk, Decidable.not_not, cond_true, cond_false, true_implies, false_implies, implies_true, Bool.not_true, Bool.not_false]
    exact ⟨fun _ => ⟨⟨none, 0, 0⟩, rfl, h, Upd.refl _ _, rfl⟩, fun h => absurd (by decide) h⟩
  | some p =>
    obtain ⟨g, cs, ha, hB, hb, hn, hc, hcl, ht⟩ := h.blk (by rw [hs]; simp)
    rw [hs] at ha; injection ha with ha; subst ha
    have hhold := (h.holds hs).2.2
    have := Try.slices_Compact_int_cells g 0 s.n s.c l w (by omega) (by omega) hn (fun j hj => by
      have h1 := (hhold j (by simpa using hj)).1
      rw [h1]
      simp [List.getD_eq_getElem?_getD, List.getElem?_eq_getElem hj, hj]) (fun j hj => hb.frozen _)
    rw [List.take_of_length_le (by omega)] at this
    refine this.mono ?_
    rintro e w' ⟨rfl, q, rfl⟩
    have hcle : (Lib.compact l).length ≤ s.n := by
      match l, hm with
      | [], _ => rw [compact0]; simp
      | [a], _ => rw [compact1]; simp at hln ⊢; omega
      | [a, b], _ => rw [compact2]; simp at hln; split <;> simp <;> omega
      | _ :: _ :: _ :: _, hm => simp at hm
    generalize hvs : ((Lib.compact l ++ List.replicate (s.n - (Lib.compact l).length) 0).map (Value.int .i64)) = vs
    have hvl : vs.length = s.n := by rw [← hvs]; simp; omega
    have sW : SetW (w.drewN q) ⟨g, 0, none⟩ vs ((w.drewN q).setCells g 0 vs) := (setL_cells g 0 vs 0 _).symm
    have qq : Qt w (w.drewN q) := ⟨q, rfl⟩
    have hb' := sW.blk (hb.ext qq.ext)
    have u' := sW.upd
    refine ⟨⟨some ⟨g, 0, none⟩, (Lib.compact l).length, s.c⟩, rfl, ?_, ?_, rfl⟩
    · have := Own.of_blk (s := ⟨some ⟨g, 0, none⟩, (Lib.compact l).length, s.c⟩) (z := 1) hb' hB rfl (by dsimp only; omega) hc (by rw [setsL_len]; exact hcl)
      have e : (setsL cs 0 vs).take ((Lib.compact l).length * 1) = iv (Lib.compact l) := by
        apply List.ext_getElem?
        intro i
        rw [List.getElem?_take]
        split
        · rename_i hi
          have := setsL_in vs cs 0 i (by omega) (by omega)
          rw [Nat.zero_add] at this
          rw [this, ← hvs, List.getElem?_map, List.getElem?_append_left (by omega), iv, List.getElem?_map]
        · rename_i hi
          rw [List.getElem?_eq_none (by rw [iv_length]; omega)]
      rw [← e]; exact this
    · exact (qq.ext.toS.trans u' fun i hi hn => ⟨fun h => h, fun e => hn ⟨_, hs, e⟩⟩)
end
end Go.Proofs.Ytilaeefmfiihlaa.V
