/-
  The builtin clear on a slice of one-cell elements.
-/
import Derived.Test.YtepmokkhcombmaaDoorArith
import Derived.Lib.SliceRun
namespace Go.Proofs.YtepmokkhcombmaaDoor.V
open Go Go.RowKit
set_option linter.unusedVariables false
set_option linter.unusedSimpArgs false

theorem setL_cells (b o : Nat) : ∀ (vs : List Value) (i : Nat) (w : World), setL w ⟨b, o, none⟩ i vs = w.setCells b (o + i) vs
  | [], i, w => by simp [setL, World.setCells]
  | v :: r, i, w => by
    rw [setL, World.setCells, setL_cells b o r (i + 1), add_mk]
    rfl
theorem setsL_out : ∀ (vs cs : List Value) (o j : Nat), j < o ∨ o + vs.length ≤ j → (setsL cs o vs)[j]? = cs[j]?
  | [], _, _, _, _ => rfl
  | v :: r, cs, o, j, h => by
    rw [setsL, setsL_out r _ (o + 1) j (by simp only [List.length_cons] at h; omega), List.getElem?_set_ne]
    simp only [List.length_cons] at h
    omega
theorem setsL_len : ∀ (vs cs : List Value) (o : Nat), (setsL cs o vs).length = cs.length
  | [], _, _ => rfl
  | v :: r, cs, o => by rw [setsL, setsL_len r]; simp
theorem setsL_in : ∀ (vs cs : List Value) (o i : Nat), o + vs.length ≤ cs.length → i < vs.length → (setsL cs o vs)[o + i]? = vs[i]?
  | [], _, _, _, _, h => absurd h (Nat.not_lt_zero _)
  | v :: r, cs, o, 0, h, _ => by
    simp only [List.length_cons] at h
    rw [setsL, setsL_out r _ (o + 1) (o + 0) (.inl (by omega))]
    simp only [Nat.add_zero, List.getElem?_cons_zero]
    rw [List.getElem?_set_self (by omega)]
  | v :: r, cs, o, i + 1, h, hi => by
    simp only [List.length_cons] at h hi
    rw [setsL, show o + (i + 1) = o + 1 + i by omega, setsL_in r _ (o + 1) i (by rw [List.length_set]; omega) (by omega)]
    rfl
theorem run_clear {P : Program} {τ : Tab} (hτ : τ.Ok P) {t ty e by_ : Nat} {z : Value} (ht : lk τ.und t = some (.slice e)) (hs : lk τ.siz e = some (1, by_, [z])) (h1 : one z)
    {w : World} {g T o n c : Nat} {cs : List Value} (h : Blk w g T cs) (hd : o + n ≤ cs.length) (hn : 0 < n) :
    ∃ w', Runs P (Builtin.clear_ #[t] ty #[.slice (some ⟨g, o, none⟩) n c]) w (.tuple #[]) w' ∧
      Blk w' g T (setsL cs o (List.replicate n z)) ∧ Upd (· = g) w w' ∧ w'.heap.size = w.heap.size := by
  obtain ⟨i, hi, hi1, hi2, hi3, zv, hz1, hz2⟩ := hτ.siz _ _ _ _ hs
  have hu := hτ.slice ht
  have hzc : (Builtin.zeroCells zv.cells n).toList = List.replicate n z := by
    rw [hz2]
    apply List.ext_getElem
    · simp [Builtin.zeroCells]
    · intro i h1 h2
      simp [Builtin.zeroCells, Nat.mod_one]
  have hw : SetW w ⟨g, o, none⟩ (List.replicate n z) (w.setCells g o (List.replicate n z)) := by
    unfold SetW
    rw [setL_cells]; rfl
  refine ⟨w.setCells g o (List.replicate n z), ?_, hw.blk h, hw.upd, hw.size⟩
  have hst := run_storeCells_cells (P := P) g o (List.replicate n z) 0 w
    (fun j hj => by rw [List.length_replicate] at hj; rw [h.cell, List.getElem?_eq_getElem (by omega)]; rfl) (fun j hj => h.frozen _) (by intro v hv'; rw [List.eq_of_mem_replicate hv']; exact one_one h1)
  simp only [Nat.add_zero] at hst
  obtain ⟨m, rfl⟩ : ∃ m, n = m + 1 := ⟨n - 1, by omega⟩
  unfold Runs
  simp [Builtin.clear_, run_underlying hu, zeroValue, typeInfo, hi, hz1, hzc, hst]
end Go.Proofs.YtepmokkhcombmaaDoor.V
