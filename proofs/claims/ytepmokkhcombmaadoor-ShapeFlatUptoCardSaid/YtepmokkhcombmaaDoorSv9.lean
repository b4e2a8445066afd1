/-
  What is viewed, and what was asked for; what must be in any case.
-/
import Derived.Test.YtepmokkhcombmaaDoorSv8
namespace Go.Proofs.YtepmokkhcombmaaDoor.V
open Go Go.RowKit
set_option linter.unusedVariables false
set_option linter.unusedSimpArgs false
set_option linter.unusedSectionVars false
set_option maxRecDepth 100000

/-- rows and things of a size that can be told -/
structure Dok (R : List Rp) (L : List Th) : Prop where
  okr : Okr R
  bR : rowsB R ≤ 10000000000
  lm : L.length ≤ 1000000000000
  ok : ∀ t ∈ L, Okc t.cells
  ob : ∀ t ∈ L, 64 + (t.lab.length + cellsB t.cells) ≤ 100000000
theorem cellsB_len (l : List Cl) : l.length ≤ cellsB l := by
  induction l with
  | nil => exact Nat.zero_le _
  | cons a l ih => unfold cellsB at *; rw [List.map_cons, List.sum_cons]; unfold cellB at *; simp only [List.length_cons]; omega
theorem rowsB_mem {R : List Rp} {r : Rp} (h : r ∈ R) : rowB r ≤ rowsB R := by
  induction R with
  | nil => cases h
  | cons a l ih =>
    have h1 : rowsB (a :: l) = rowB a + rowsB l := by unfold rowsB; rw [List.map_cons, List.sum_cons]
    rw [List.mem_cons] at h
    rcases h with rfl | h
    · omega
    · have := ih h; omega
section
variable {R : List Rp} {L : List Th} {b : Nat}
theorem Dok.rs (h : Dok R L) : Rsm R := by
  have hb := h.bR
  refine ⟨by have := rowsB_len R; omega, fun r hr => ?_⟩
  have h1 := rowsB_mem hr
  unfold rowB at h1
  have := cellsB_len r.loc
  have := cellsB_len r.stk
  omega
theorem Dok.lc (h : Dok R L) : ∀ t ∈ L, t.cells.length ≤ 1000000000000 := fun t ht => by
  have := h.ob t ht
  have := cellsB_len t.cells
  omega
theorem Dok.okf (h : Dok R L) (id : Nat) : Okc (findT L id).cells := by
  unfold findT
  split
  · rename_i t ht
    exact h.ok t (List.mem_of_find?_eq_some ht)
  · intro c hc; cases hc
theorem Dok.obf (h : Dok R L) (id : Nat) : obB (findT L id) ≤ 100000000 := by
  unfold findT
  split
  · rename_i t ht
    exact h.ob t (List.mem_of_find?_eq_some ht)
  · decide
theorem Dok.oko (h : Dok R L) (hb : b < 18446744073709551616) (id : Nat) (hid : id < 18446744073709551616) : Okc (ofT b L id).cells := by
  unfold ofT
  split
  · intro c hc
    rw [List.mem_singleton] at hc
    subst hc
    show nxtT id b < _
    unfold nxtT
    split
    · exact hid
    · omega
  · exact h.okf id
theorem Dok.obo (h : Dok R L) (id : Nat) : obB (ofT b L id) ≤ 100000000 := by
  unfold ofT
  split
  · simp only [obB, cellsB, cellB, List.map_cons, List.map_nil, List.sum_cons, List.sum_nil, List.length_cons, List.length_nil]; omega
  · exact h.obf id
end
/-- the library's table stands -/
abbrev TBf (w : World) : Prop := ∀ w', Ext w w' → ∀ B, w.heap.size ≤ B → TB B w'
theorem TBf.ext {w w' : World} (h : TBf w) (x : Ext w w') : TBf w' := fun w'' y B hB => h w'' (x.trans y) B (by have := x.size; omega)
section
variable {w : World} {l ths : Sl} {R : List Rp} {L : List Th} {b : Nat}
theorem viewed_spec (hR : RwK (Ext w) l R) (hL : ThK (Ext w) ths L) (D : Dok R L) (hb : b < 18446744073709551616) (hT : TBf w) :
    Calls Tryd.prog 8 #[.slice l.a l.n l.c, .slice ths.a ths.n ths.c, .int .u64 (b : Nat)] w fun e w' => ∃ qs : Sl, e = .returned (.tuple #[.string (mkB (seenT (ofT b L) R).1), .slice qs.a qs.n qs.c]) ∧ Own w' w.heap.size 28 1 qs (uv (seenT (ofT b L) R).2) ∧ Ext w w' := by
  refine vc_8 _ _ _ _ _ ?_
  simp only [eq_self, false_or, or_false, true_and, and_true, decide_eq_true_eq, decide_eq_false_iff_not, gd_st, gd_sf, exists_eq_left', exists_eq_left, Option.some.injEq, Sl.eta, Nat.reduceLeDiff, Int.reduceLE, Int.reduceLT, Int.reduceEq, Int.reduceNe, Nat.reduceMul, Nat.reduceAdd, Nat.reduceSub, Int.toNat_natCast, beq_iff_eq, bne_iff_ne, beq_eq_false_iff_ne, bne_eq_false_iff_eq, pick_and, pick_or, Bool.and_eq_true, Bool.or_eq_true, Bool.and_eq_false_iff, Bool.or_eq_false_iff, ne_eq, not_false_eq_true, Bool.not_eq_true', Bool.not_eq_false', reduceCtorEq, Nat.le_refl, Nat.zero_mul, Nat.mul_one, Nat.zero_add, Int.reduceToNat, ones, one, add_mk, Decidable.not_not, cond_true, cond_false, true_implies, false_implies, implies_true, Bool.not_true, Bool.not_false]
  intro w1 n1 w2 n2 w3 n3
  have z1 := n1.size
  have z2 := n2.size
  have z3 := n3.size
  have x3 := (n1.ext.trans n2.ext).trans n3.ext
  refine ⟨(lrows_spec (K := Ext w) hR (fun w' u => x3.trans u) D.rs).mono ?_⟩
  rintro e w4 ⟨sl, rfl, r4, x4⟩
  have z4 := x4.size
  have x04 := x3.trans x4
  have U : ∀ {w'}, UA w2.heap.size w4.heap.size w4 w' → Ext w w' := fun {w'} u => x04.fresh u fun i hi => by rcases hi with h | h <;> omega
  have hR4 : RwK (UA w2.heap.size w4.heap.size w4) sl R := r4.rwk fun k hk => by rcases hk with h | h; left; omega; right; exact h
  refine ⟨sl, rfl, ⟨(view_spec hR4 D.okr (fun w' u => hT w' (U u) _ (by omega)) ((Blk.new n3).ext x4) ((Blk.new n2).ext (n3.ext.trans x4)) ((Blk.new n1).ext (n2.ext.trans (n3.ext.trans x4))) (by omega) hb (hL.mono fun w' u => U u) D.lm D.lc (D.oko hb) D.obo D.bR).mono ?_⟩⟩
  rintro e w5 ⟨rfl, ⟨qs, kq, oq⟩, u5⟩
  have x05 := U u5
  refine ⟨_, rfl, qs, kq.cell 0, fun w6 q6 => ⟨qs, rfl, (oq.ext q6.ext).mono (by omega), x05.trans q6.ext⟩⟩
end
theorem itoa_dig {n : Nat} (h : n < 10) : Lib.itoa ((n : Nat) : Int) = [UInt8.ofNat (48 + n)] := by
  unfold Lib.itoa
  rw [if_neg (by omega), Int.toNat_natCast, dd_small h]
def R0 : List Rp := [⟨1, 0, [], []⟩, ⟨2, 5, [⟨true, 4, []⟩, ⟨false, 0, []⟩, ⟨false, 0, [55]⟩], []⟩]
def L0 : List Th := [⟨4, [97], [⟨true, 4, []⟩, ⟨true, 0, []⟩]⟩]
theorem seen0 : seenT (ofT 0 L0) R0 = ([49, 46, 48, 32, 124, 10, 50, 46, 53, 32, 35, 49, 32, 45, 32, 55, 32, 124, 10, 35, 49, 32, 97, 58, 32, 35, 49, 32, 110, 111, 110, 101, 10], [4]) := by
  have i0 : Lib.itoa 0 = [48] := itoa_dig (n := 0) (by decide)
  have i1 : Lib.itoa 1 = [49] := itoa_dig (n := 1) (by decide)
  have i2 : Lib.itoa 2 = [50] := itoa_dig (n := 2) (by decide)
  have i5 : Lib.itoa 5 = [53] := itoa_dig (n := 5) (by decide)
  have hr : rowsT [] R0 = ([49, 46, 48, 32, 124, 10, 50, 46, 53, 32, 35, 49, 32, 45, 32, 55, 32, 124, 10], [4]) := by
    simp [R0, rowsT, rowT, cellsT, cellT, numT, i0, i1, i2, i5]
  have ho : objT [4] 1 (ofT 0 L0 4) = ([35, 49, 32, 97, 58, 32, 35, 49, 32, 110, 111, 110, 101, 10], [4]) := by
    simp [ofT, findT, L0, objT, cellsT, cellT, numT, i1]
  unfold seenT
  rw [hr, objsT_step (f := 65535) (id := 4) rfl, ho, objsT_end (by decide)]
  rfl
theorem dok0 : Dok R0 L0 := by
  refine ⟨fun r hr => ?_, by decide, by decide, fun t ht => ?_, fun t ht => ?_⟩
  · simp [R0] at hr
    rcases hr with rfl | rfl
    · exact ⟨fun c hc => (by cases hc), fun c hc => (by cases hc), by decide, by decide⟩
    · refine ⟨fun c hc => ?_, fun c hc => (by cases hc), by decide, by decide⟩
      simp at hc
      rcases hc with rfl | rfl | rfl <;> decide
  · simp [L0] at ht
    subst ht
    intro c hc
    simp at hc
    rcases hc with rfl | rfl <;> decide
  · simp [L0] at ht
    subst ht
    decide
theorem shown_spec {w : World} (hT : TBf w) : Calls Tryd.prog 7 #[] w fun e w' => e = .returned (.bool true) ∧ Ext w w' := by
  refine vc_7 _ _ ?_
  simp only [eq_self, false_or, or_false, true_and, and_true, decide_eq_true_eq, decide_eq_false_iff_not, gd_st, gd_sf, exists_eq_left', exists_eq_left, Option.some.injEq, Sl.eta, Nat.reduceLeDiff, Int.reduceLE, Int.reduceLT, Int.reduceEq, Int.reduceNe, Nat.reduceMul, Nat.reduceAdd, Nat.reduceSub, Int.toNat_natCast, beq_iff_eq, bne_iff_ne, beq_eq_false_iff_ne, bne_eq_false_iff_eq, pick_and, pick_or, Bool.and_eq_true, Bool.or_eq_true, Bool.and_eq_false_iff, Bool.or_eq_false_iff, ne_eq, not_false_eq_true, Bool.not_eq_true', Bool.not_eq_false', reduceCtorEq, Nat.le_refl, Nat.zero_mul, Nat.mul_one, Nat.zero_add, Int.reduceToNat, ones, one, add_mk, Decidable.not_not, cond_true, cond_false, true_implies, false_implies, implies_true, Bool.not_true, Bool.not_false]
  intro w1 n1
  refine ⟨rfl, fun w2 n2 w3 n3 => ⟨rfl, fun w4 n4 => ?_⟩⟩
  have z1 := n1.size
  have z2 := n2.size
  have z3 := n3.size
  have x14 := (n2.ext.trans n3.ext).trans n4.ext
  have x4 := n1.ext.trans x14
  have hR : RwK (Ext w4) ⟨some ⟨w1.heap.size, 0, none⟩, 2, 2⟩ R0 := by
    refine ⟨[(1, 0, ⟨none, 0, 0⟩, ⟨none, 0, 0⟩), (2, 5, ⟨some ⟨w.heap.size, 0, none⟩, 3, 3⟩, ⟨none, 0, 0⟩)], rfl, fun k a t ha ht => ?_, fun w' u => ⟨?_, fun k a t ha ht => ?_⟩⟩
    · match k with
      | 0 => simp [R0] at ha ht; subst ha; subst ht; exact ⟨rfl, rfl⟩
      | 1 => simp [R0] at ha ht; subst ha; subst ht; exact ⟨rfl, rfl⟩
      | k + 2 => simp at ha
    · exact ((Blk.new n2).ext ((n3.ext.trans n4.ext).trans u)).rd (z := 4) (o := 0) (n := 2) (c := 2) (by simp)
    · match k with
      | 0 => simp [R0] at ha ht; subst ha; subst ht; exact ⟨Rd.nil0 _ _, Rd.nil0 _ _⟩
      | 1 => simp [R0] at ha ht; subst ha; subst ht; exact ⟨((Blk.new n1).ext (x14.trans u)).rd (z := 3) (o := 0) (n := 3) (c := 3) (by simp), Rd.nil0 _ _⟩
      | k + 2 => simp at ha
  have hL : ThK (Ext w4) ⟨some ⟨w3.heap.size, 0, none⟩, 1, 1⟩ L0 := by
    refine ⟨[(4, [97], ⟨some ⟨w2.heap.size, 0, none⟩, 2, 2⟩)], rfl, fun k a t ha ht => ?_, fun w' u => ⟨?_, fun k a t ha ht => ?_⟩⟩
    · match k with
      | 0 => simp [L0] at ha ht; subst ha; subst ht; exact ⟨rfl, rfl⟩
      | k + 1 => simp at ha
    · exact ((Blk.new n4).ext u).rd (z := 3) (o := 0) (n := 1) (c := 1) (by simp)
    · match k with
      | 0 => simp [L0] at ha ht; subst ha; subst ht; exact ((Blk.new n3).ext (n4.ext.trans u)).rd (z := 3) (o := 0) (n := 2) (c := 2) (by simp)
      | k + 1 => simp at ha
  refine ⟨(viewed_spec (b := 0) hR hL dok0 (by decide) (hT.ext x4)).mono ?_⟩
  rintro e w5 ⟨qs, rfl, oq, x5⟩
  rw [seen0] at oq
  have hqn : 1 = qs.n := by have := oq.len1; exact this
  obtain ⟨p, hp, hc⟩ := oq.rd.2 (by omega)
  refine ⟨_, qs, rfl, fun _ => ⟨fun _ => ⟨by omega, p, hp, _, hc 0 _ rfl, ?_⟩, fun hne => absurd (by omega) hne⟩, fun hne => absurd ?_ hne⟩
  · exact ⟨rfl, x4.trans x5⟩
  · rw [seen0]; rfl
end Go.Proofs.YtepmokkhcombmaaDoor.V
