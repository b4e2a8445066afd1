/-
  Bytes as text.
-/
import Derived.Test.YtepmokkhcombmaaDoorArith
import Derived.Laws.BytesArg
namespace Go.Proofs.YtepmokkhcombmaaDoor.V
open Go Go.RowKit
set_option linter.unusedSimpArgs false
set_option linter.unusedVariables false

/-- bytes as text -/
def strOf (l : List Nat) : ByteArray := ⟨(l.map UInt8.ofNat).toArray⟩
theorem Rd.text {P : Program} {τ : Tab} (hτ : τ.Ok P) {t e d : Nat} (ht : lk τ.und t = some (.slice e)) (he : lk τ.und e = some (.int .u8)) (hd : lk τ.und d = some .string)
    {w : World} {s : Sl} {xs : List Nat} (hr : Rd w 1 s (bv xs)) : Runs P (convert t d (.slice s.a s.n s.c)) w (.string (strOf xs)) w := by
  have hl := hr.lenb
  unfold Runs
  rw [run_convert_bytes_string w t d e s.a s.n s.c (hτ.slice ht) (hτ.int he) (hτ.string hd)]
  cases hn : s.a with
  | none =>
    have : xs = [] := by
      apply List.eq_nil_of_length_eq_zero
      rcases Nat.eq_zero_or_pos xs.length with h | h
      · exact h
      · obtain ⟨p, hp, _⟩ := hr.2 (by omega)
        rw [hn] at hp; cases hp
    subst this
    rfl
  | some a =>
    have hload : (loadCells a s.n).run P w = .ok ((xs.map fun (x : Nat) => (x : Int)).map (Value.int .u8)).toArray w := by
      have h := run_loadCells_list (P := P) w a (bv xs) (fun j v hj => by
        have hpos : 0 < s.n := by
          rcases Nat.eq_zero_or_pos s.n with h0 | h0
          · have : xs = [] := List.eq_nil_of_length_eq_zero (by omega)
            subst this; cases hj
          · exact h0
        obtain ⟨p, hp, hc⟩ := hr.2 hpos
        rw [hn] at hp
        injection hp with hp
        subst hp
        exact hc j v hj)
      rw [bv_length, hl] at h
      rw [h]
      simp [bv]
    rw [run_bytesToString w a s.n s.c _ hload, foldl_push_bytes]
    congr 2
    unfold strOf
    congr 1
    simp only [ByteArray.empty, ByteArray.emptyWithCapacity, List.map_map]
    apply Array.ext'
    rw [Array.toList_append]
    show [] ++ _ = _
    rw [List.nil_append]
    rfl
end Go.Proofs.YtepmokkhcombmaaDoor.V
