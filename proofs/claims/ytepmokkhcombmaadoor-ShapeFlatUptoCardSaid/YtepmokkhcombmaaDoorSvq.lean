/-
  A chain of objects, each of which names the next one: what is told of it.
-/
import Derived.Test.YtepmokkhcombmaaDoorSvp
namespace Go.Proofs.YtepmokkhcombmaaDoor.V
open Go Go.RowKit
set_option linter.unusedVariables false
set_option linter.unusedSimpArgs false
set_option linter.unusedSectionVars false
set_option maxRecDepth 100000

def ch (a b : Nat) : Nat → Nat
  | 0 => a
  | k + 1 => nxtT (ch a b k) b
def chL (a b n : Nat) : List Nat := (List.range n).map (ch a b)
def chE (a b n : Nat) : List UInt8 := [35] ++ (Lib.itoa (n : Nat) ++ ([32, 111, 58, 32, 35] ++ (if (ch a b (n - 1) + b) % M64 = 0 then Lib.itoa (n : Nat) ++ [10] else [63, 10])))
/-- n: how many of the chain get numbers -/
structure ChN (a b n : Nat) : Prop where
  one : 1 ≤ n
  most : n ≤ 65536
  go : ∀ k, k + 1 < n → (ch a b k + b) % M64 ≠ 0
  stop : n < 65536 → (ch a b (n - 1) + b) % M64 = 0
theorem chL_len (a b n : Nat) : (chL a b n).length = n := by unfold chL; rw [List.length_map, List.length_range]
theorem chL_snoc (a b n : Nat) : chL a b (n + 1) = chL a b n ++ [ch a b n] := by unfold chL; rw [List.range_succ, List.map_append]; rfl
theorem chL_get {a b n k : Nat} (hk : k < n) : (chL a b n)[k]? = some (ch a b k) := by
  unfold chL
  rw [List.getElem?_map, List.getElem?_range hk]; rfl
section
variable {a b n : Nat} (hb : b % 2 = 1) (ha : a ≠ 0) (ha2 : a < M64) (N : ChN a b n)
include ha in
theorem ch_ne : ∀ k, ch a b k ≠ 0
  | 0 => ha
  | k + 1 => by
    show nxtT _ _ ≠ 0
    unfold nxtT
    split
    · exact ch_ne k
    · assumption
include ha2 in
theorem ch_lt : ∀ k, ch a b k < M64
  | 0 => ha2
  | k + 1 => by
    show nxtT _ _ < _
    unfold nxtT
    split
    · exact ch_lt k
    · exact Nat.mod_lt _ (by decide)
include ha2 N in
theorem ch_is : ∀ k, k < n → ch a b k = (a + k * b) % M64
  | 0, _ => by rw [Nat.zero_mul, Nat.add_zero, Nat.mod_eq_of_lt ha2]; rfl
  | k + 1, hk => by
    have h1 := N.go k hk
    have ih := ch_is k (by omega)
    show nxtT _ _ = _
    unfold nxtT
    rw [if_neg h1, ih, Nat.succ_mul]
    rw [Nat.mod_add_mod, Nat.add_assoc]
include hb ha2 N in
theorem ch_inj {j k : Nat} (hj : j < k) (hk : k < n) : ch a b j ≠ ch a b k := by
  rw [ch_is ha2 N j (by omega), ch_is ha2 N k hk]
  intro h
  have hm := N.most
  have : ((k - j) * b) % M64 = 0 := by
    have e : k * b = (k - j) * b + j * b := by rw [← Nat.add_mul]; congr 1; omega
    generalize (k - j) * b = p at *
    generalize j * b = q at *
    rw [e] at h
    unfold M64 at *
    omega
  have := odd_zero hb (by unfold M64; omega) this
  omega
include hb ha2 N in
theorem ch_not {k : Nat} (hk : k < n) : ch a b k ∉ chL a b k := by
  intro h
  unfold chL at h
  obtain ⟨j, hj, e⟩ := List.mem_map.1 h
  exact ch_inj hb ha2 N (List.mem_range.1 hj) hk e
include hb ha2 N in
theorem ch_idx {k : Nat} (hk : k < n) : (chL a b (k + 1)).idxOf (ch a b k) = k := by
  rw [chL_snoc, List.idxOf_append, if_neg (ch_not hb ha2 N hk), chL_len]
  simp
include hb ha ha2 N in
theorem num_last : numT (chL a b n) (nxtT (ch a b (n - 1)) b) = (if (ch a b (n - 1) + b) % M64 = 0 then n else 0, chL a b n) := by
  have h1 := N.one
  obtain ⟨k, rfl⟩ : ∃ k, n = k + 1 := ⟨n - 1, by omega⟩
  rw [Nat.add_sub_cancel]
  by_cases h : (ch a b k + b) % M64 = 0
  · have e : nxtT (ch a b k) b = ch a b k := by unfold nxtT; rw [if_pos h]
    rw [e, if_pos h]
    unfold numT
    rw [if_pos (by rw [chL_snoc]; simp), ch_idx hb ha2 N (by omega)]
  · rw [if_neg h]
    have hn : k + 1 = 65536 := by
      have := N.most
      rcases Nat.lt_or_ge (k + 1) 65536 with h2 | h2
      · exact absurd (N.stop h2) h
      · omega
    have e : nxtT (ch a b k) b = (a + (k + 1) * b) % M64 := by
      unfold nxtT
      rw [if_neg h, ch_is ha2 N k (by omega), Nat.mod_add_mod, Nat.add_assoc, Nat.succ_mul]
    have hno : nxtT (ch a b k) b ∉ chL a b (k + 1) := by
      intro h'
      unfold chL at h'
      obtain ⟨j, hj, e2⟩ := List.mem_map.1 h'
      have hj := List.mem_range.1 hj
      rw [e, ch_is ha2 N j hj] at e2
      have : ((k + 1 - j) * b) % M64 = 0 := by
        have e : (k + 1) * b = (k + 1 - j) * b + j * b := by rw [← Nat.add_mul]; congr 1; omega
        generalize (k + 1 - j) * b = p at *
        generalize j * b = q at *
        rw [e] at e2
        unfold M64 at *
        omega
      have := odd_zero hb (by unfold M64; omega) this
      omega
    unfold numT
    rw [if_neg hno, if_pos (by rw [chL_len]; exact hn)]
include hb ha ha2 N in
theorem num_mid {k : Nat} (hk : k + 1 < n) : numT (chL a b (k + 1)) (nxtT (ch a b k) b) = (k + 2, chL a b (k + 2)) := by
  have hm := N.most
  have e : nxtT (ch a b k) b = ch a b (k + 1) := rfl
  unfold numT
  rw [e, if_neg (ch_not hb ha2 N hk), chL_len, if_neg (by omega), ← chL_snoc]
abbrev chO (b : Nat) (id : Nat) : Ob := ofT b [] id
theorem chO_is (hb0 : b ≠ 0) (id : Nat) : chO b id = ⟨[111], [⟨true, nxtT id b, []⟩]⟩ := by show ofT b [] id = _; unfold ofT; rw [if_pos hb0]
include hb ha ha2 N in
theorem obj_last : objT (chL a b n) n (chO b (ch a b (n - 1))) = (chE a b n, chL a b n) := by
  have h1 := N.one
  have hz : nxtT (ch a b (n - 1)) b ≠ 0 := ch_ne (b := b) ha (n - 1 + 1)
  rw [chO_is (by omega)]
  unfold objT chE
  simp only [cellsT, cellT, num_last hb ha ha2 N]
  rw [if_neg (by decide), if_neg hz]
  by_cases h : (ch a b (n - 1) + b) % M64 = 0
  · rw [if_pos h, if_pos h, if_neg (by omega)]
    simp
  · rw [if_neg h, if_neg h, if_pos rfl]
    simp
include hb ha ha2 N in
theorem obj_mid {k : Nat} (hk : k + 1 < n) : ∃ t, objT (chL a b (k + 1)) (k + 1) (chO b (ch a b k)) = (t, chL a b (k + 2)) := by
  have hz : nxtT (ch a b k) b ≠ 0 := ch_ne (b := b) ha (k + 1)
  rw [chO_is (by omega)]
  unfold objT
  simp only [cellsT, cellT, num_mid hb ha ha2 N hk]
  rw [if_neg (by decide), if_neg hz]
  exact ⟨_, rfl⟩
include hb ha ha2 N in
theorem objs_ch : ∀ (d k : Nat), k + 1 + d = n → ∃ t, objsT (chO b) (65536 - k) k (chL a b (k + 1)) = (t ++ chE a b n, chL a b n)
  | 0, k, h => by
    have hm := N.most
    have e : n - 1 = k := by omega
    have h2 := obj_last hb ha ha2 N
    rw [e] at h2
    have e2 : k + 1 = n := by omega
    rw [show 65536 - k = (65536 - (k + 1)) + 1 by omega, objsT_step (chL_get (by omega)), e2, h2]
    dsimp only
    rw [objsT_end (by rw [chL_len]; omega)]
    exact ⟨[], by simp⟩
  | d + 1, k, h => by
    have hm := N.most
    obtain ⟨t, ht⟩ := obj_mid hb ha ha2 N (k := k) (by omega)
    obtain ⟨u, hu⟩ := objs_ch d (k + 1) (by omega)
    rw [show 65536 - k = (65536 - (k + 1)) + 1 by omega, objsT_step (chL_get (by omega)), ht]
    dsimp only
    rw [hu]
    exact ⟨t ++ u, by rw [List.append_assoc]⟩
abbrev chR (a : Nat) : List Rp := [⟨0, 0, [], [⟨true, a, []⟩]⟩]
include hb ha ha2 N in
theorem seen_ch : ∃ t, t ≠ [] ∧ seenT (ofT b []) (chR a) = (t ++ chE a b n, chL a b n) := by
  have h1 := N.one
  obtain ⟨u, hu⟩ := objs_ch hb ha ha2 N (n - 1) 0 (by omega)
  have hr : ∃ t, t ≠ [] ∧ rowsT [] (chR a) = (t, chL a b 1) := by
    have : numT [] a = (1, [a]) := by unfold numT; simp
    simp only [chR, rowsT, rowT, cellsT, cellT, this]
    rw [if_neg (by decide), if_neg ha]
    exact ⟨_, by simp, rfl⟩
  obtain ⟨t, ht, e⟩ := hr
  unfold seenT
  rw [e]
  have e2 : objsT (ofT b []) 65536 0 (chL a b 1) = (u ++ chE a b n, chL a b n) := hu
  dsimp only
  rw [e2]
  exact ⟨t ++ u, by simp [ht], by rw [List.append_assoc]⟩
end
end Go.Proofs.YtepmokkhcombmaaDoor.V
