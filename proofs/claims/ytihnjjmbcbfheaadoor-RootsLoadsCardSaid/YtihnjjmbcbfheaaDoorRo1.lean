/-
  Lists of whole numbers sorted (the library's contract); lists that are sorted and have the same members.
-/
import Derived.Test.YtihnjjmbcbfheaaDoorOwn2
import Derived.Test.YtihnjjmbcbfheaaDoorLebR
import Derived.Test.YtihnjjmbcbfheaaDoorShelf
namespace Go.Proofs.YtihnjjmbcbfheaaDoor.V
open Go Go.RowKit
set_option linter.unusedVariables false
set_option linter.unusedSimpArgs false
set_option linter.unusedSectionVars false
set_option maxRecDepth 100000

theorem Ext.toS {w w' : World} {S : Nat → Prop} (x : Ext w w') : Upd S w w' := Upd.mono x fun _ _ _ => not_false
/-- the block of a slice -/
def Sl.own (s : Sl) : Nat → Prop := fun k => ∃ p, s.a = some p ∧ k = p.block
theorem eq_of_sorted_mem : ∀ {a b : List Int}, a.Pairwise (· < ·) → b.Pairwise (· < ·) → (∀ x, x ∈ a ↔ x ∈ b) → a = b
  | [], [], _, _, _ => rfl
  | [], y :: b, _, _, h => by have := (h y).2 (List.mem_cons_self ..); cases this
  | x :: a, [], _, _, h => by have := (h x).1 (List.mem_cons_self ..); cases this
  | x :: a, y :: b, ha, hb, h => by
    rw [List.pairwise_cons] at ha hb
    have hxy : x = y := by
      rcases List.mem_cons.1 ((h x).1 (List.mem_cons_self ..)) with e | e
      · exact e
      · rcases List.mem_cons.1 ((h y).2 (List.mem_cons_self ..)) with e' | e'
        · exact e'.symm
        · have := hb.1 x e; have := ha.1 y e'; omega
    subst hxy
    rw [eq_of_sorted_mem ha.2 hb.2 fun z => ?_]
    constructor
    · intro hz
      rcases List.mem_cons.1 ((h z).1 (List.mem_cons_of_mem _ hz)) with e | e
      · subst e; have := ha.1 z hz; omega
      · exact e
    · intro hz
      rcases List.mem_cons.1 ((h z).2 (List.mem_cons_of_mem _ hz)) with e | e
      · subst e; have := hb.1 z hz; omega
      · exact e
theorem put_blk {w : World} {g T : Nat} {cs : List Value} (h : Blk w g T cs) (l : List Int) (hl : l.length ≤ cs.length) (n : Nat) (os : Array Obj) :
    Blk (Sort.grow (Sort.putRow (Value.int .i64) (Sort.ahead w n) g 0 l.toArray) os) g T (iv l ++ cs.drop l.length) ∧ Upd (· = g) w (Sort.grow (Sort.putRow (Value.int .i64) (Sort.ahead w n) g 0 l.toArray) os) := by
  have hlt := h.lt
  have hsz : (w.heap.modify g (Sort.onCells (Sort.putCells (Value.int .i64) 0 l.toArray))).size = w.heap.size := by simp
  refine ⟨?_, rfl, rfl, rfl, ?_, fun k hk hne => ?_⟩
  · unfold Blk at h ⊢
    show (w.heap.modify g (Sort.onCells (Sort.putCells (Value.int .i64) 0 l.toArray)) ++ os)[g]? = _
    rw [Array.getElem?_append_left (by rw [hsz]; exact hlt), Array.getElem?_modify, if_pos rfl, h]
    simp only [Option.map_some, Sort.onCells]
    congr 2
    apply Array.ext'
    apply List.ext_getElem?
    intro i
    unfold Sort.putCells
    simp only [Array.toList_mapIdx, List.getElem?_mapIdx]
    by_cases hi : i < l.length
    · rw [List.getElem?_append_left (by rw [iv_length]; exact hi), iv, List.getElem?_map, List.getElem?_eq_getElem hi, List.getElem?_eq_getElem (by omega)]
      simp [hi]
    · rw [List.getElem?_append_right (by rw [iv_length]; omega), iv_length, List.getElem?_drop, show l.length + (i - l.length) = i by omega]
      cases hc : cs[i]? with
      | none => rfl
      | some v => simp [hi]
  · show w.heap.size ≤ (w.heap.modify g (Sort.onCells (Sort.putCells (Value.int .i64) 0 l.toArray)) ++ os).size
    rw [Array.size_append, hsz]; omega
  · show (w.heap.modify g (Sort.onCells (Sort.putCells (Value.int .i64) 0 l.toArray)) ++ os)[k]? = _
    rw [Array.getElem?_append_left (by rw [hsz]; exact hk), Array.getElem?_modify, if_neg (fun e => hne e.symm)]
section
variable {w w' : World} {B : Nat} {s : Sl} {l : List Int}
/-- a row written whole -/
theorem Own.put {g T : Nat} (h : Own w B 3 1 s (iv l)) {p : Addr} (hp : s.a = some p) (l' : List Int) (hl : l'.length = l.length) (n : Nat) (os : Array Obj) :
    Own (Sort.grow (Sort.putRow (Value.int .i64) (Sort.ahead w n) p.block 0 l'.toArray) os) B 3 1 s (iv l') ∧ Upd s.own w (Sort.grow (Sort.putRow (Value.int .i64) (Sort.ahead w n) p.block 0 l'.toArray) os) := by
  obtain ⟨g, cs, ha, hB, hb, hn, hc, hcl, ht⟩ := h.blk (by rw [hp]; simp)
  rw [hp] at ha; injection ha with ha; subst ha
  have hln := h.rd.leni
  obtain ⟨h1, h2⟩ := put_blk hb l' (by omega) n os
  refine ⟨?_, h2.mono fun k _ hk he => hk ⟨_, hp, he⟩⟩
  have := Own.of_blk (s := s) (z := 1) h1 hB hp hn hc (by rw [List.length_append, iv_length, List.length_drop]; omega)
  rw [List.take_append_of_le_length (by rw [iv_length]; omega), List.take_of_length_le (by rw [iv_length]; omega)] at this
  exact this
theorem Own.holds (h : Own w B 3 1 s (iv l)) {p : Addr} (hp : s.a = some p) : p = ⟨p.block, 0, none⟩ ∧ p.block < w.heap.size ∧ Sort.Holds (Value.int .i64) w p.block 0 l.toArray := by
  obtain ⟨g, cs, ha, hB, hb, hn, hc, hcl, ht⟩ := h.blk (by rw [hp]; simp)
  rw [hp] at ha; injection ha with ha; subst ha
  refine ⟨rfl, hb.lt, fun j hj => ⟨?_, hb.frozen _⟩⟩
  have hj' : j < l.length := by simpa using hj
  have hln := h.rd.leni
  rw [hb.cell, Nat.zero_add]
  have : (cs.take (s.n * 1))[j]? = (iv l)[j]? := by rw [ht]
  rw [List.getElem?_take, if_pos (by omega)] at this
  rw [this, iv, List.getElem?_map, List.getElem?_eq_getElem hj']
  simp [hj']
theorem sort_spec (h : Own w B 3 1 s (iv l)) (hm : l.length ≤ 1000000) :
    Calls Tryd.prog 37 #[.slice s.a s.n s.c] w fun e w' => ∃ v, e = .returned v ∧ Own w' B 3 1 s (iv (l.mergeSort fun x y => decide (x ≤ y))) ∧ Upd s.own w w' := by
  have hln := h.rd.leni
  cases hs : s.a with
  | none =>
    obtain ⟨rfl, hx⟩ := h.none_ hs
    have : l = [] := by cases l with | nil => rfl | cons => simp [iv] at hx
    subst this
    refine (Tryd.slices_Sort_int_none _ _ _).mono ?_
    rintro e w' ⟨rfl, rfl⟩
    exact ⟨_, rfl, by simpa using h, Upd.refl _ _⟩
  | some p =>
    obtain ⟨hp, hlt, hh⟩ := h.holds hs
    have := Tryd.slices_Sort_int p.block 0 s.c l w hh hlt (by omega)
    rw [← hp, hln] at this
    refine this.mono ?_
    rintro e w' ⟨rfl, n, os, rfl⟩
    exact ⟨_, rfl, h.put (g := 0) (T := 0) hs _ (by simp) n os⟩
end
end Go.Proofs.YtihnjjmbcbfheaaDoor.V
