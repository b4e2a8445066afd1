/-
  Close.
-/
import Derived.Test.YtcmmdaginkhomaaAr14
import Derived.Test.YtcmmdaginkhomaaClr
namespace Go.Proofs.Ytcmmdaginkhomaa.V
open Go Go.RowKit
set_option linter.unusedVariables false
set_option linter.unusedSimpArgs false
set_option maxRecDepth 100000

def closeT (A : Ar) (zero : Bool) : Ar × Int :=
  if A.opn = false then (A, 1)
  else ({ A with ws := if zero = true then layL A.ws A.use.f (List.replicate A.n 0) else A.ws, use := A.nxt, nxt := ⟨0, 0⟩, opn := false }, 0)
theorem closeT_ok {A : Ar} (h : A.Ok) (zero : Bool) : (closeT A zero).1.Ok := by
  have h1 := h.use1; have h2 := h.useIn; have h3 := h.len; have h4 := h.use
  unfold closeT
  split
  · exact h
  · rename_i ho
    have hx := h.nxt (by simpa using ho)
    refine ⟨h.n, ?_, fun x hx' => ?_, by dsimp only; omega, ⟨hx.2.1, hx.2.2⟩, fun hf => (by cases hf), fun _ => rfl⟩
    · dsimp only; split
      · rw [layL_len (by rw [List.length_replicate]; omega)]; exact h.len
      · exact h.len
    · dsimp only at hx'
      split at hx'
      · rcases layL_mem hx' with h5 | h5
        · exact h.lt x h5
        · rw [List.eq_of_mem_replicate h5]; decide
      · exact h.lt x hx'
theorem setsL_rep : ∀ (vs cs : List Value) (o : Nat), o + vs.length ≤ cs.length → setsL cs o vs = cs.take o ++ vs ++ cs.drop (o + vs.length)
  | [], cs, o, h => by simp [setsL]
  | v :: r, cs, o, h => by
    rw [List.length_cons] at h
    rw [setsL, setsL_rep r _ _ (by rw [List.length_set]; omega)]
    rw [List.take_set, List.drop_set_of_lt (by omega), List.length_cons, show o + 1 + r.length = o + (r.length + 1) by omega]
    congr 1
    have ht : (cs.take o).length = o := by rw [List.length_take]; omega
    have e : (cs.take (o + 1)).set o v = cs.take o ++ [v] := by
      apply List.ext_getElem?
      intro j
      rw [List.getElem?_set]
      by_cases h1 : o = j
      · subst h1
        rw [if_pos rfl, if_pos (by rw [List.length_take]; omega), List.getElem?_append_right (by omega), ht, Nat.sub_self]; rfl
      · rw [if_neg h1, List.getElem?_take]
        by_cases h2 : j < o
        · rw [if_pos (by omega), List.getElem?_append_left (by omega), List.getElem?_take, if_pos h2]
        · rw [if_neg (by omega), List.getElem?_eq_none (by rw [List.length_append, ht]; simp; omega)]
    rw [e, List.append_assoc]; rfl
end Go.Proofs.Ytcmmdaginkhomaa.V
