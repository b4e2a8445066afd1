/-
  What is laid of things: the plain law.
-/
import Derived.Test.YtcmmdaginkhomaaLa1
namespace Go.Proofs.Ytcmmdaginkhomaa.V
open Go Go.RowKit
set_option linter.unusedVariables false
set_option linter.unusedSimpArgs false
set_option maxRecDepth 100000

structure Th where
  K : Int
  T : Int
  cs : List Nat
  ns : List Int
def refsOf (os : List Lo) : List Nat := (objsL 0 os).map (·.1)
theorem refsOf_length (os : List Lo) : (refsOf os).length = os.length := by simp [refsOf, objsL_length]
theorem refsOf_snoc (os : List Lo) (o : Lo) : refsOf (os ++ [o]) = refsOf os ++ [(encs os).length + 1] := by
  unfold refsOf
  rw [objsL_append, List.map_append, Nat.zero_add]; rfl
def nameT (os : List Lo) (n : Int) : Nat := (refsOf os).getD (pk n ((os.length : Int) + 1)).toNat 0
def cellsT (os : List Lo) (t : Th) : List Nat := if 1 + pk t.K 3 = 3 then [] else (t.cs.take 9).map (· % 9223372036854775808)
def namesT (os : List Lo) (t : Th) : List Nat := if 1 + pk t.K 3 = 2 then [] else (t.ns.take 9).map (nameT os)
def bitsT (c m : Nat) : Nat := (2 ^ m - 1) * 2 ^ c
def mkT (os : List Lo) (t : Th) : Lo :=
  (⟨1 + pk t.K 3, pk t.T 256, ((cellsT os t ++ namesT os t).length : Nat), if 1 + pk t.K 3 = 1 then bitsT (cellsT os t).length (namesT os t).length else 0⟩, cellsT os t ++ namesT os t)
def layT (n : Nat) (os : List Lo) (t : Th) : List Lo := if n - (encs os).length < (mkT os t).2.length + 2 then os else os ++ [mkT os t]
structure LInv (n : Nat) (os : List Lo) : Prop where
  fit : (encs os).length ≤ n
  ok : ∀ o ∈ os, LoOk o
  refs : RefsOk os
theorem bitsT_lt (c m : Nat) : bitsT c m < 2 ^ (c + m) := by
  unfold bitsT
  have h1 : 0 < 2 ^ m := Nat.pow_pos (by decide)
  have h2 : 0 < 2 ^ c := Nat.pow_pos (by decide)
  rw [Nat.pow_add, Nat.mul_comm (2 ^ c)]
  exact (Nat.mul_lt_mul_right h2).2 (by omega)
theorem bitsT_or (c m : Nat) : bitsT c m ||| 2 ^ (c + m) = bitsT c (m + 1) := by
  have h := or_add (a := 1) (n := c + m) (bitsT_lt c m)
  rw [Nat.one_mul] at h
  rw [h]
  unfold bitsT
  have h1 : 0 < 2 ^ m := Nat.pow_pos (by decide)
  rw [Nat.pow_add, Nat.pow_succ, Nat.mul_comm (2 ^ c), ← Nat.add_mul]
  congr 1
  omega
theorem bitsT_low {c m i : Nat} (h : i < c) : bitsT c m / 2 ^ i % 2 = 0 := by
  unfold bitsT
  obtain ⟨d, rfl⟩ : ∃ d, c = i + (d + 1) := ⟨c - i - 1, by omega⟩
  rw [Nat.pow_add, Nat.pow_succ, show (2 ^ m - 1) * (2 ^ i * (2 ^ d * 2)) = (2 ^ m - 1) * 2 ^ d * 2 * 2 ^ i by ac_rfl, Nat.mul_div_cancel _ (Nat.pow_pos (by decide))]
  exact Nat.mul_mod_left _ _
theorem refsOf_lt {n : Nat} {os : List Lo} (h : (encs os).length ≤ n) : ∀ x ∈ refsOf os, 1 ≤ x ∧ x ≤ n := by
  intro x hx
  obtain ⟨o, ho, rfl⟩ := List.mem_map.1 hx
  obtain ⟨X, y, Y, rfl, rfl⟩ := objs_split _ _ _ ho
  rw [encs_append, List.length_append, encs_clen] at h
  dsimp only
  omega
theorem nameT_there (os : List Lo) (n : Int) : thereT (objsL 0 os) (nameT os n) = true := by
  rw [thereT_iff]
  unfold nameT
  rw [List.getD_eq_getElem?_getD]
  cases hx : (refsOf os)[(pk n ((os.length : Int) + 1)).toNat]? with
  | none => exact .inl rfl
  | some x =>
    obtain ⟨o, ho, h⟩ := List.mem_map.1 (List.mem_of_getElem? hx)
    exact .inr ⟨o, ho, h⟩
theorem nameT_le {N : Nat} {os : List Lo} (h : (encs os).length ≤ N) (n : Int) : nameT os n ≤ N := by
  unfold nameT
  rw [List.getD_eq_getElem?_getD]
  cases hx : (refsOf os)[(pk n ((os.length : Int) + 1)).toNat]? with
  | none => exact Nat.zero_le _
  | some x => exact (refsOf_lt h x (List.mem_of_getElem? hx)).2
theorem cellsT_len (os : List Lo) (t : Th) : (cellsT os t).length ≤ 9 := by
  unfold cellsT; split
  · exact Nat.zero_le _
  · rw [List.length_map, List.length_take]; omega
theorem namesT_len (os : List Lo) (t : Th) : (namesT os t).length ≤ 9 := by
  unfold namesT; split
  · exact Nat.zero_le _
  · rw [List.length_map, List.length_take]; omega
theorem mkT_ok {n : Nat} {os : List Lo} (hn : n ≤ 65536) (h : (encs os).length ≤ n) (t : Th) : LoOk (mkT os t) := by
  have h1 := cellsT_len os t; have h2 := namesT_len os t
  have hk := pk_lt (c := t.K) (n := 3) (by decide)
  have ht := pk_lt (c := t.T) (n := 256) (by decide)
  refine ⟨⟨ht.1, by show pk t.T 256 ≤ 255; omega, Int.natCast_nonneg _, ?_⟩, rfl, fun x hx => ?_⟩
  · show (1 + pk t.K 3 = 1 ∧ ((cellsT os t ++ namesT os t).length : Int) ≤ 32 ∧ (if 1 + pk t.K 3 = 1 then bitsT (cellsT os t).length (namesT os t).length else 0) < 2 ^ (((cellsT os t ++ namesT os t).length : Int)).toNat) ∨ ((1 + pk t.K 3 = 2 ∨ 1 + pk t.K 3 = 3) ∧ ((cellsT os t ++ namesT os t).length : Int) ≤ 1000 ∧ (if 1 + pk t.K 3 = 1 then bitsT (cellsT os t).length (namesT os t).length else 0) = 0)
    rw [List.length_append, Int.toNat_natCast]
    by_cases hk1 : 1 + pk t.K 3 = 1
    · rw [if_pos hk1]
      exact .inl ⟨hk1, by omega, bitsT_lt _ _⟩
    · rw [if_neg hk1]
      exact .inr ⟨by omega, by omega, rfl⟩
  · rcases List.mem_append.1 hx with hx | hx
    · unfold cellsT at hx
      split at hx
      · cases hx
      · obtain ⟨y, _, rfl⟩ := List.mem_map.1 hx
        exact Nat.mod_lt _ (by decide)
    · unfold namesT at hx
      split at hx
      · cases hx
      · obtain ⟨y, _, rfl⟩ := List.mem_map.1 hx
        have := nameT_le h y
        omega
theorem mkT_refs (os : List Lo) (t : Th) : ∀ i, i < (mkT os t).2.length → refT (mkT os t).1 i = true → thereT (objsL 0 os) ((mkT os t).2.getD i 0) = true := by
  intro i hi hr
  have hk := pk_lt (c := t.K) (n := 3) (by decide)
  have hc : (cellsT os t).length ≤ i := by
    rw [← Nat.not_lt]
    intro hlt
    have hc3 : 1 + pk t.K 3 ≠ 3 := by
      intro h; unfold cellsT at hlt; rw [if_pos h] at hlt; exact absurd hlt (Nat.not_lt_zero _)
    unfold refT at hr
    have e1 : ((mkT os t).1.k == 3) = false := by simp [mkT]; omega
    rw [e1, Bool.false_or] at hr
    obtain ⟨h1, h2⟩ := (Bool.and_eq_true _ _).mp hr
    have hk1 : 1 + pk t.K 3 = 1 := beq_iff_eq.1 h1
    have e2 : (mkT os t).1.r = bitsT (cellsT os t).length (namesT os t).length := by show (if _ then _ else _) = _; rw [if_pos hk1]
    rw [e2, bitsT_low hlt] at h2
    exact absurd h2 (by decide)
  have hl : (mkT os t).2 = cellsT os t ++ namesT os t := rfl
  rw [hl, List.length_append] at hi
  rw [hl, List.getD_eq_getElem?_getD, List.getElem?_append_right hc]
  have hm : (namesT os t)[i - (cellsT os t).length]? = some ((namesT os t)[i - (cellsT os t).length]'(by omega)) := List.getElem?_eq_getElem _
  rw [hm]
  have hmem := List.mem_of_getElem? hm
  generalize (namesT os t)[i - (cellsT os t).length]'(by omega) = x at hmem
  unfold namesT at hmem
  split at hmem
  · cases hmem
  · obtain ⟨y, _, rfl⟩ := List.mem_map.1 hmem
    exact nameT_there os y
theorem snoc_split {α : Type} {X Y os : List α} {o x : α} (h : os ++ [x] = X ++ o :: Y) : (∃ Z, os = X ++ o :: Z) ∨ (X = os ∧ o = x) := by
  rcases List.eq_nil_or_concat Y with rfl | ⟨Z, y, rfl⟩
  · have := List.append_inj' h rfl
    obtain ⟨h1, h2⟩ := this
    injection h2 with h2
    exact .inr ⟨h1.symm, h2.symm⟩
  · refine .inl ⟨Z, ?_⟩
    rw [List.concat_eq_append, ← List.cons_append, ← List.append_assoc] at h
    exact (List.append_inj' h rfl).1
theorem LInv.lay {n : Nat} {os : List Lo} (hn : n ≤ 65536) (h : LInv n os) (t : Th) : LInv n (layT n os t) := by
  unfold layT
  split
  · exact h
  · rename_i hh
    refine ⟨by rw [encs_slen]; have := h.fit; omega, fun o ho => ?_, fun X o Y e => ?_⟩
    · rcases List.mem_append.1 ho with ho | ho
      · exact h.ok o ho
      · rw [List.mem_singleton.1 ho]; exact mkT_ok hn h.fit t
    · rcases snoc_split e with ⟨Z, rfl⟩ | ⟨rfl, rfl⟩
      · exact h.refs X o Z rfl
      · exact mkT_refs _ t
theorem LInv.nil (n : Nat) : LInv n [] := ⟨Nat.zero_le _, fun o h => (by cases h), fun X o Y e => by simp at e⟩
def laidL (n : Nat) (ts : List Th) : List Lo := (ts.take 200).foldl (layT n) []
theorem laidL_inv {n : Nat} (hn : n ≤ 65536) (ts : List Th) : LInv n (laidL n ts) := by
  unfold laidL
  have : ∀ (l : List Th) (os : List Lo), LInv n os → LInv n (l.foldl (layT n) os) := by
    intro l
    induction l with
    | nil => intro os h; exact h
    | cons t l ih => intro os h; exact ih _ (h.lay hn t)
  exact this _ _ (LInv.nil n)
end Go.Proofs.Ytcmmdaginkhomaa.V
