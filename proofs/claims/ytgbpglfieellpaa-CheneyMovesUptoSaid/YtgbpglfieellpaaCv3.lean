/-
  Law CheneyLess: what follows of what is met; the walk.
-/
import Derived.Test.YtgbpglfieellpaaCv1
namespace Go.Proofs.Ytgbpglfieellpaa.V
open Go Go.RowKit
set_option linter.unusedVariables false
set_option linter.unusedSimpArgs false
set_option maxRecDepth 100000

theorem pushQ_mem_iff {q : List Nat} {j m : Nat} : m ∈ pushQ q j ↔ m ∈ q ∨ m = j := by
  unfold pushQ
  split
  · rename_i h
    exact ⟨.inl, fun hh => hh.elim id fun e => e ▸ h⟩
  · simp
theorem pushO_mem {q : List Nat} {o : Option Nat} {m : Nat} : m ∈ pushO q o ↔ m ∈ q ∨ o = some m := by
  cases o with
  | none => simp [pushO]
  | some j =>
    show m ∈ pushQ q j ↔ _
    rw [pushQ_mem_iff]
    simp [eq_comm]
theorem fold_mem : ∀ (l : List (Option Nat)) (q : List Nat) (m : Nat), m ∈ l.foldl pushO q ↔ m ∈ q ∨ some m ∈ l
  | [], q, m => by simp
  | o :: l, q, m => by
    rw [List.foldl_cons, fold_mem l, pushO_mem, List.mem_cons]
    constructor
    · rintro ((h | h) | h)
      · exact .inl h
      · exact .inr (.inl h.symm)
      · exact .inr (.inr h)
    · rintro (h | h | h)
      · exact .inl (.inl h)
      · exact .inl (.inr h.symm)
      · exact .inr h
theorem expandN_least {N : Nat} {t : Th} {S : Nat → Prop} (hS : ∀ i, i < lenT t → ∀ m, namT N t i = some m → S m) {q : List Nat} (hq : ∀ j ∈ q, S j) : ∀ n, n ≤ lenT t → ∀ j ∈ expandN N t q n, S j
  | 0, _, j, hj => hq j hj
  | n + 1, hn, j, hj => by
    rcases pushO_mem.1 hj with h | h
    · exact expandN_least hS hq n (by omega) j h
    · exact hS n (by omega) j h
theorem Walks.least {T : Nat → Th} {N k : Nat} {q Q : List Nat} (h : Walks T N k q Q) {S : Nat → Prop} (hS : ∀ j, S j → ∀ i, i < lenT (T j) → ∀ m, namT N (T j) i = some m → S m) : (∀ j ∈ q, S j) → ∀ j ∈ Q, S j := by
  induction h with
  | done _ => exact fun h => h
  | step hj _ ih => exact fun hq => ih (expandN_least (hS _ (hq _ (List.mem_of_getElem? hj))) hq _ (Nat.le_refl _))
theorem Walks.of_nil {T : Nat → Th} {N : Nat} {Q : List Nat} (h : Walks T N 0 [] Q) : Q = [] := h.uniq (.done rfl)
theorem posQ_find {T : Nat → Th} {q : List Nat} {m : Nat} : ∀ k, m < posQ T q k → ∃ t j, q[t]? = some j ∧ posQ T q t ≤ m ∧ m < posQ T q t + lenT (T j) + 2
  | 0, h => by simp [posQ, szQ] at h
  | k + 1, h => by
    by_cases h1 : m < posQ T q k
    · exact posQ_find k h1
    · cases hk : q[k]? with
      | none =>
        have hl := List.getElem?_eq_none_iff.1 hk
        rw [posQ_all (by omega)] at h h1
        exact absurd h h1
      | some j =>
        rw [posQ_succ hk] at h
        exact ⟨k, j, hk, by omega, h⟩
/-- the words of what stands are told by what is met -/
theorem Laid.words {T : Nat → Th} {N n f : Nat} {Q : List Nat} {A C : Ar} (h : Laid T N n f Q (pNew T f Q) A) (h' : Laid T N n f Q (pNew T f Q) C) {a : Nat} (h1 : f ≤ a) (h2 : a < f + szQ T Q) : A.ws[a]? = C.ws[a]? := by
  obtain ⟨t, j, ht, h3, h4⟩ := posQ_find (T := T) (q := Q) (m := a - f) Q.length (by rw [posQ_all (Nat.le_refl _)]; omega)
  have hj := List.mem_of_getElem? ht
  obtain ⟨_, _, oa⟩ := h.at_ j hj
  obtain ⟨_, _, oc⟩ := h'.at_ j hj
  have ep : pNew T f Q j = f + posQ T Q t := by unfold pNew; rw [idxOf_at h.nd ht]
  rw [ep] at oa oc
  have hln := hl_nat (T j)
  by_cases e1 : a = f + posQ T Q t
  · rw [e1, oa.hd, oc.hd]
  · by_cases e2 : a = f + posQ T Q t + lenT (T j) + 1
    · have ga := oa.gd; have gc := oc.gd
      rw [hln] at ga gc
      rw [e2, ga, gc]
    · have ca := oa.cells (a - (f + posQ T Q t + 1)) (by rw [hln]; omega)
      have cc := oc.cells (a - (f + posQ T Q t + 1)) (by rw [hln]; omega)
      rw [show f + posQ T Q t + 1 + (a - (f + posQ T Q t + 1)) = a by omega] at ca cc
      rw [ca, cc]
theorem newA_word {n a : Nat} (h : a < 2 * n) : (newA n).ws[a]? = some 0 := by
  show (List.replicate (2 * n) 0)[a]? = _
  rw [List.getElem?_replicate, if_pos h]
theorem map_rv (rl : List Nat) (p : Nat → Nat) : (rl.map some).map (rv p) = rl.map fun j => p j + 1 := by rw [List.map_map]; rfl
/-- a Collect that was done, kept in a variable -/
structure Coll (w : World) (a : Option Addr) (b g n f : Nat) (ts : List Th) (rl : List Nat) (A : Ar) : Prop where
  ex : ∃ D s c0 c1 c2 Q A', a = some ⟨D, 0, none⟩ ∧ DoneB w D s (szQ (tsT ts) Q : Nat) 0 1 (cloV c0 c1 c2) ∧ Walks (tsT ts) ts.length 0 ((rl.map some).foldl pushO []) Q ∧ ArW 76 w b g A' ∧
    Laid (tsT ts) ts.length n (n - f) Q (pNew (tsT ts) (n - f) Q) A' ∧ (∀ a, f ≤ a → a < f + n → A'.ws[a]? = some 0) ∧ (∀ a, n - f + szQ (tsT ts) Q ≤ a → a < n - f + n → A'.ws[a]? = A.ws[a]?)
theorem visited_less {w : World} {b g n f : Nat} {A : Ar} {ts : List Th} {order : List Nat} {p : Nat → Nat} {l : Sl} {rl : List Nat} (h : ArW 76 w b g A) (hL : Laid (tsT ts) ts.length n f order p A) (hr : Rd w 1 l (uv (rl.map fun j => p j + 1))) (hro : ∀ j ∈ rl, j ∈ order) (hm : rl.length ≤ 17592186043905) :
    Calls Try.prog 14 #[.pointer (some ⟨g, 0, none⟩), .slice l.a l.n l.c, .bool true] w fun e' w' => ∃ s n1 e1 calls c0 c1 c2, e' = .returned (doneV s n1 e1 calls (cloV c0 c1 c2)) ∧ Upd (fun k => k = b ∨ k = g) w w' ∧
      ∀ w1 w2, NewW w' (.cells #[.slice none 0 0, .int .i64 0, .int .i64 0, .int .i64 0, .nilFunc] 39) w1 → SetW w1 ⟨w'.heap.size, 0, none⟩ [.slice s.a s.n s.c, .int .i64 n1, .int .i64 e1, .int .i64 calls, cloV c0 c1 c2] w2 → Coll w2 (some ⟨w'.heap.size, 0, none⟩) b g n f ts rl A ∧ Ext w' w2 ∧ w'.heap.size < w2.heap.size := by
  refine (visited_laid h hL (roots := rl.map some) (by rw [map_rv]; exact hr) (by
    intro o ho j hj
    obtain ⟨k, hk, rfl⟩ := List.mem_map.1 ho
    injection hj with hj; subst hj; exact hro k hk) (by rw [List.length_map]; exact hm) true).mono ?_
  rintro e w' ⟨s, c0, c1, c2, Q, A', rfl, hw, hQ, o, a', hL', hue, hz, hrest, v, hc0, u⟩
  refine ⟨s, _, _, _, c0, c1, c2, rfl, u, fun w1 w2 n1 s2 => ?_⟩
  obtain ⟨D, x, hl⟩ := DoneB.made n1 s2
  exact ⟨⟨_, s, c0, c1, c2, Q, A', rfl, D, hw, a'.ext x, hL', hz rfl, hrest⟩, x, hl⟩
end Go.Proofs.Ytgbpglfieellpaa.V
