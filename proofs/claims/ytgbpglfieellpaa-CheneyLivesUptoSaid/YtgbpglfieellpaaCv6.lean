/-
  Law CheneyLives: the walk.
-/
import Derived.Test.YtgbpglfieellpaaCv5
import Derived.Test.YtgbpglfieellpaaVcE
namespace Go.Proofs.Ytgbpglfieellpaa.V
open Go Go.RowKit
set_option linter.unusedVariables false
set_option linter.unusedSimpArgs false
set_option maxRecDepth 100000

/-- nothing is broken -/
theorem Laid.check {T : Nat → Th} {N n f : Nat} {Q : List Nat} {A : Ar} (h : Laid T N n f Q (pNew T f Q) A) (hue : A.use.e = f + szQ T Q) : checkT A = (0, 0) := by
  obtain ⟨hw, he⟩ := h.whole hue
  have ea := allT_eq h.ok hw he
  unfold checkT
  rw [ea]
  dsimp only
  rw [if_pos rfl]
  have : (obsQ T f Q Q.length).find? (badT A (obsQ T f Q Q.length)) = none := by
    rw [List.find?_eq_none]
    intro o ho
    obtain ⟨t, ht, rfl⟩ := List.getElem_of_mem ho
    rw [obsQ_len] at ht
    have hj : Q[t]? = some Q[t] := List.getElem?_eq_getElem ht
    have e := obsQ_at (T := T) (f := f) (n := Q.length) ht hj
    rw [List.getElem?_eq_getElem (by rw [obsQ_len]; exact ht)] at e
    injection e with e
    rw [e]
    rw [badT_false]
    · simp
    intro i hi
    dsimp only at hi
    rw [hl_nat] at hi
    unfold badC
    dsimp only
    cases hr : refT (hdrT (T Q[t])) i with
    | false => rfl
    | true =>
      have hc := (h.stands hj).2.cells i (by rw [hl_nat]; exact hi)
      rw [List.getD_eq_getElem?_getD, show f + posQ T Q t + 1 + i = f + posQ T Q t + 1 + i from rfl, hc]
      show (true && !thereT _ (cellV N _ (T Q[t]) i)) = false
      cases hn : namT N (T Q[t]) i with
      | none => rw [cellV_zero hi hn hr]; rfl
      | some k =>
        rw [cellV_some hn]
        have hk := h.closed _ (List.mem_of_getElem? hj) i hi k hn
        obtain ⟨u, hu, hku⟩ := List.getElem_of_mem hk
        have hku' : Q[u]? = some k := by rw [List.getElem?_eq_getElem hu, hku]
        have eu := obsQ_at (T := T) (f := f) (n := Q.length) hu hku'
        have : thereT (obsQ T f Q Q.length) (pNew T f Q k + 1) = true := by
          unfold thereT
          rw [Bool.or_eq_true]
          right
          refine List.any_eq_true.2 ⟨_, List.mem_of_getElem? eu, ?_⟩
          dsimp only
          unfold pNew
          rw [idxOf_at h.nd hku']
          simp
        rw [this]; rfl
  rw [this]
def fTn (tn n : Nat) : Nat := if tn % 2 = 0 then 0 else n
theorem fTn_next (tn n : Nat) : n - fTn tn n = fTn (tn + 1) n := by
  unfold fTn
  by_cases h : tn % 2 = 0
  · rw [if_pos h, if_neg (by omega)]; omega
  · rw [if_neg h, if_pos (by omega)]; omega
theorem tmod2 {tn : Nat} (h : tn < 3) : ((tn : Nat) : Int).tmod 2 = ((tn % 2 : Nat) : Int) := by
  rcases (by omega : tn = 0 ∨ tn = 1 ∨ tn = 2) with rfl | rfl | rfl <;> rfl
/-- what holds ahead of each turn -/
structure Lv (w : World) (B b g n : Nat) (ts : List Th) (tn : Nat) (s3 s4 : Sl) : Prop where
  ex : ∃ order p A refL fr, ArW 76 w b g A ∧ Laid (tsT ts) ts.length n (fTn tn n) order p A ∧ Own w B 23 1 s3 (uv refL) ∧ refL.length = ts.length ∧ (∀ j ∈ order, refL[j]? = some (p j + 1)) ∧ Own w B 3 1 s4 (nv fr) ∧ (∀ j ∈ fr, j ∈ order ∧ j < ts.length) ∧ fr.length ≤ 17592186043905
/-- where things stand now -/
def toRow (N : Nat) (T : Nat → Th) (f : Nat) (Q : List Nat) (i : Nat) : List Nat := (List.range N).map fun j => if j ∈ Q.take i then pNew T f Q j + 1 else 0
theorem toRow_len (N : Nat) (T : Nat → Th) (f : Nat) (Q : List Nat) (i : Nat) : (toRow N T f Q i).length = N := by simp [toRow]
theorem toRow_at {N : Nat} {T : Nat → Th} {f : Nat} {Q : List Nat} {i j : Nat} (hj : j < N) (hm : j ∈ Q.take i) : (toRow N T f Q i)[j]? = some (pNew T f Q j + 1) := by
  unfold toRow
  rw [List.getElem?_map, List.getElem?_range hj]
  show some (if j ∈ Q.take i then pNew T f Q j + 1 else 0) = _
  rw [if_pos hm]
theorem toRow_zero (N : Nat) (T : Nat → Th) (f : Nat) (Q : List Nat) : List.replicate N 0 = toRow N T f Q 0 := by
  apply List.ext_getElem
  · simp [toRow]
  · intro a h1 h2
    simp [toRow]
theorem toRow_set {N : Nat} {T : Nat → Th} {f : Nat} {Q : List Nat} {i j : Nat} (hj : j < N) (hq : Q[i]? = some j) : (toRow N T f Q i).set j (pNew T f Q j + 1) = toRow N T f Q (i + 1) := by
  apply List.ext_getElem?
  intro a
  rw [List.getElem?_set, toRow_len]
  unfold toRow
  by_cases ha : a < N
  · rw [List.getElem?_map, List.getElem?_map, List.getElem?_range ha]
    rw [take_snoc hq]
    by_cases he : j = a
    · subst he
      rw [if_pos rfl, if_pos hj]
      show _ = some (if j ∈ Q.take i ++ [j] then pNew T f Q j + 1 else 0)
      rw [if_pos (by simp)]
    · rw [if_neg he]
      show some (if a ∈ Q.take i then pNew T f Q a + 1 else 0) = some (if a ∈ Q.take i ++ [j] then pNew T f Q a + 1 else 0)
      have e : (a ∈ Q.take i ++ [j]) ↔ a ∈ Q.take i := by simp [Ne.symm he]
      by_cases hh : a ∈ Q.take i
      · rw [if_pos hh, if_pos (e.2 hh)]
      · rw [if_neg hh, if_neg (fun h => hh (e.1 h))]
  · rw [if_neg (by omega), List.getElem?_eq_none (by simp; omega), List.getElem?_eq_none (by simp; omega)]
theorem rvs (fr : List Nat) (p : Nat → Nat) : (fr.map some).map (rv p) = fr.map fun j => p j + 1 := map_rv fr p
end Go.Proofs.Ytgbpglfieellpaa.V
