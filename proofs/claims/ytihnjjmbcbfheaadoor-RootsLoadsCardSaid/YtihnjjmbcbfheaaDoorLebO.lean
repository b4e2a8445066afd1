/-
  Law LebOne: the plain part.
-/
import Derived.Test.YtihnjjmbcbfheaaDoorLeb5
namespace Go.Proofs.YtihnjjmbcbfheaaDoor.V
open Go Go.RowKit
set_option linter.unusedVariables false
set_option linter.unusedSimpArgs false

/-- what is read as a number is that number's form -/
theorem parse_form : ∀ (l : List Nat) (i acc n z : Nat), (∀ x ∈ l, x < 256) → parse l i acc = some (some (n, z)) →
    ∃ m, n = acc + m * 128 ^ i ∧ i < z ∧ z - i ≤ l.length ∧ l.take (z - i) = form m ∧ (0 < i → 0 < m)
  | [], i, acc, n, z, _, h => by cases h
  | c :: l, i, acc, n, z, hb, h => by
    unfold parse at h
    split at h
    · cases h
    · split at h
      · rename_i hc
        split at h
        · cases h
        · rename_i h0
          simp only [Option.some.injEq, Prod.mk.injEq] at h
          obtain ⟨rfl, rfl⟩ := h
          refine ⟨c, rfl, by omega, by simp, ?_, fun hi => by omega⟩
          rw [show i + 1 - i = 1 by omega, form_small hc]
          rfl
      · rename_i hc
        obtain ⟨m, rfl, hz, hl, ht, hm⟩ := parse_form l (i + 1) _ n z (fun x hx => hb x (by simp [hx])) h
        have hc2 := hb c (by simp)
        have hm' := hm (by omega)
        refine ⟨c % 128 + 128 * m, ?_, by omega, by simp; omega, ?_, fun _ => by omega⟩
        · rw [Nat.pow_succ, Nat.add_mul]
          have : m * (128 ^ i * 128) = 128 * m * 128 ^ i := by rw [Nat.mul_comm (128 ^ i) 128, ← Nat.mul_assoc, Nat.mul_comm m 128]
          omega
        · rw [form_big (by omega), show z - i = (z - (i + 1)) + 1 by omega, List.take_succ_cons, ht]
          have e1 : (c % 128 + 128 * m) % 128 = c % 128 := by omega
          have e2 : (c % 128 + 128 * m) / 128 = m := by omega
          rw [e1, e2]
          congr 1
          omega
/-- a number's beginning is none -/
theorem parse_cut : ∀ (l : List Nat) (i acc n z k : Nat), parse l i acc = some (some (n, z)) → k < z - i → parse (l.take k) i acc = none
  | [], i, acc, n, z, k, h, _ => by cases h
  | c :: l, i, acc, n, z, 0, h, _ => by rw [List.take_zero]; rfl
  | c :: l, i, acc, n, z, k + 1, h, hk => by
    rw [List.take_succ_cons]
    unfold parse at h ⊢
    split at h
    · cases h
    · rename_i h9
      rw [if_neg h9]
      split at h
      · split at h
        · cases h
        · simp only [Option.some.injEq, Prod.mk.injEq] at h
          omega
      · rename_i hc
        rw [if_neg hc]
        exact parse_cut l (i + 1) _ n z k h (by omega)
end Go.Proofs.YtihnjjmbcbfheaaDoor.V
