/-
  The objects of a space, one behind the other.
-/
import Derived.Test.YtcmmdaginkhomaaAr17
namespace Go.Proofs.Ytcmmdaginkhomaa.V
open Go Go.RowKit
set_option linter.unusedVariables false
set_option linter.unusedSimpArgs false
set_option maxRecDepth 100000

/-- objects that stand one behind the other, from a word up to a word -/
inductive Path (A : Ar) (a : Nat) : List (Nat × Hd) → Nat → Prop
  | nil : Path A a [] a
  | snoc {l : List (Nat × Hd)} {b : Nat} {h : Hd} : Path A a l b → stT A A.use (b + 1) = some h → Path A a (l ++ [(b + 1, h)]) (b + h.l.toNat + 2)
theorem Path.le {A : Ar} {a : Nat} {l : List (Nat × Hd)} {b : Nat} (h : Path A a l b) : a ≤ b := by
  induction h with
  | nil => exact Nat.le_refl _
  | snoc _ _ ih => omega
theorem Path.end_le {A : Ar} {a : Nat} {l : List (Nat × Hd)} {b : Nat} (h : Path A a l b) (ha : a ≤ A.use.e) : b ≤ A.use.e := by
  cases h with
  | nil => exact ha
  | snoc _ hs => have := stT_in hs; omega
theorem Path.more {A : Ar} {a : Nat} : ∀ (n : Nat) {l : List (Nat × Hd)} {b : Nat}, A.use.e - b ≤ n → Path A a l b → ∃ l' e, Path A a l' e ∧ stT A A.use (e + 1) = none
  | n, l, b, hn, h => by
    cases hs : stT A A.use (b + 1) with
    | none => exact ⟨l, b, h, hs⟩
    | some hd =>
      have := stT_in hs
      cases n with
      | zero => omega
      | succ n => exact Path.more n (by omega) (h.snoc hs)
/-- all objects of the space in use, and the word at which they end -/
theorem Path.full (A : Ar) (a : Nat) : ∃ l e, Path A a l e ∧ stT A A.use (e + 1) = none := Path.more _ (Nat.le_refl _) .nil
theorem Path.head {A : Ar} {a : Nat} {l : List (Nat × Hd)} {e : Nat} (h : Path A a l e) : (l = [] ∧ e = a) ∨ ∃ hd m, stT A A.use (a + 1) = some hd ∧ l = (a + 1, hd) :: m ∧ Path A (a + hd.l.toNat + 2) m e := by
  induction h with
  | nil => exact .inl ⟨rfl, rfl⟩
  | snoc h1 hs ih =>
    rcases ih with ⟨rfl, rfl⟩ | ⟨hd, m, h2, rfl, h4⟩
    · exact .inr ⟨_, [], hs, rfl, .nil⟩
    · exact .inr ⟨hd, _, h2, rfl, h4.snoc hs⟩
theorem Path.rest {A : Ar} {a : Nat} {l l' : List (Nat × Hd)} {b e : Nat} (h : Path A a l b) (h' : Path A a l' e) (he : stT A A.use (e + 1) = none) : ∃ m, l' = l ++ m ∧ Path A b m e := by
  induction h with
  | nil => exact ⟨l', rfl, h'⟩
  | snoc h1 hs ih =>
    obtain ⟨m, rfl, hm⟩ := ih
    rcases hm.head with ⟨rfl, rfl⟩ | ⟨hd, m', h2, rfl, h4⟩
    · rw [he] at hs; cases hs
    · rw [h2] at hs
      injection hs with hs
      subst hs
      exact ⟨m', by simp, h4⟩
theorem Path.uniq {A : Ar} {a : Nat} {l l' : List (Nat × Hd)} {b e : Nat} (h : Path A a l b) (hb : stT A A.use (b + 1) = none) (h' : Path A a l' e) (he : stT A A.use (e + 1) = none) : l = l' ∧ b = e := by
  obtain ⟨m, rfl, hm⟩ := h.rest h' he
  rcases hm.head with ⟨rfl, rfl⟩ | ⟨hd, m', h2, _⟩
  · simp
  · rw [h2] at hb; cases hb
end Go.Proofs.Ytcmmdaginkhomaa.V
