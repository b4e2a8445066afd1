/-
  Objects that are moved: the plain law.
-/
import Derived.Test.YtcmmdaginkhomaaLa5
namespace Go.Proofs.Ytcmmdaginkhomaa.V
open Go Go.RowKit
set_option linter.unusedVariables false
set_option linter.unusedSimpArgs false
set_option maxRecDepth 100000

/-! ### sums over numbers that are apart -/
theorem sum_le (f : Nat → Nat) : ∀ (n : Nat) (l : List Nat), l.Nodup → (∀ k ∈ l, k < n) → (l.map f).sum ≤ ((List.range n).map f).sum
  | 0, l, _, h => by
    cases l with
    | nil => exact Nat.le_refl _
    | cons a r => exact absurd (h a (List.mem_cons_self ..)) (Nat.not_lt_zero _)
  | n + 1, l, hn, h => by
    rw [List.range_succ, List.map_append, List.sum_append]
    by_cases hm : n ∈ l
    · have hp := List.perm_cons_erase hm
      have e1 : (l.map f).sum = f n + ((l.erase n).map f).sum := by rw [(hp.map f).sum_nat]; rfl
      have ih := sum_le f n (l.erase n) (hn.erase n) fun k hk => by
        have h1 := h k (List.mem_of_mem_erase hk)
        have h2 : k ≠ n := fun e => by subst e; exact hn.not_mem_erase hk
        omega
      simp only [List.map_cons, List.map_nil, List.sum_cons, List.sum_nil]
      omega
    · have ih := sum_le f n l hn fun k hk => by
        have h1 := h k hk
        have h2 : k ≠ n := fun e => hm (e ▸ hk)
        omega
      omega
def lo0 : Lo := (hd0, [])
def mvL (os : List Lo) (order : List Nat) : List Lo := order.map fun k => os.getD k lo0
theorem encs_sum : ∀ l : List Lo, (encs l).length = (l.map fun o => o.2.length + 2).sum
  | [] => rfl
  | o :: l => by rw [encs_clen, encs_sum l]; rfl
theorem encs_range (os : List Lo) : (encs os).length = ((List.range os.length).map fun k => (os.getD k lo0).2.length + 2).sum := by
  rw [encs_sum]
  congr 1
  apply List.ext_getElem?
  intro i
  rw [List.getElem?_map, List.getElem?_map]
  rcases Nat.lt_or_ge i os.length with h | h
  · rw [List.getElem?_eq_getElem h, List.getElem?_range h]
    show some _ = some ((os.getD i lo0).2.length + 2)
    rw [List.getD_eq_getElem?_getD, List.getElem?_eq_getElem h]; rfl
  · rw [List.getElem?_eq_none h, List.getElem?_eq_none (by rw [List.length_range]; exact h)]; rfl
theorem mvL_le (os : List Lo) (order : List Nat) (hn : order.Nodup) (h : ∀ k ∈ order, k < os.length) : (encs (mvL os order)).length ≤ (encs os).length := by
  rw [encs_sum, encs_range os]
  have := sum_le (fun k => (os.getD k lo0).2.length + 2) os.length order hn h
  unfold mvL
  rw [List.map_map]
  exact this
theorem mvL_length (os : List Lo) (order : List Nat) : (mvL os order).length = order.length := by simp [mvL]
theorem mvL_snoc (os : List Lo) (order : List Nat) (k : Nat) : mvL os (order ++ [k]) = mvL os order ++ [os.getD k lo0] := by simp [mvL]
theorem posL_append {X Y : List Lo} {t : Nat} (h : t ≤ X.length) : posL (X ++ Y) t = posL X t := by unfold posL; rw [List.take_append_of_le_length h]
theorem Holds.at_ {ws : List Nat} {p : Nat} {os : List Lo} (h : Holds ws p os) {k : Nat} {o : Lo} (ho : os[k]? = some o) : Holds ws (p + posL os k) (o :: os.drop (k + 1)) := by
  rw [split_at ho] at h
  exact h.right
theorem posL_lt {os : List Lo} {j k : Nat} {o : Lo} (ho : os[j]? = some o) (h : j < k) : posL os j + o.2.length + 2 ≤ posL os k := by
  rw [← posL_succ ho]
  have : ∀ d, posL os (j + 1) ≤ posL os (j + 1 + d) := by
    intro d
    induction d with
    | zero => exact Nat.le_refl _
    | succ d ih =>
      cases ho' : os[j + 1 + d]? with
      | none =>
        have := List.getElem?_eq_none_iff.1 ho'
        rw [posL_all (k := j + 1 + (d + 1)) (by omega), ← posL_all (os := os) (k := j + 1 + d) this]; exact ih
      | some o' => rw [show j + 1 + (d + 1) = j + 1 + d + 1 by omega, posL_succ ho']; omega
  have h2 := this (k - (j + 1))
  rw [show j + 1 + (k - (j + 1)) = k by omega] at h2
  exact h2
/-- an arena while objects are moved -/
structure Mv (n : Nat) (os : List Lo) (order : List Nat) (A : Ar) : Prop where
  ok : A.Ok
  nn : A.n = n
  use : A.use = ⟨0, (encs os).length⟩
  opn : A.opn = true
  nxt : A.nxt = ⟨n, n + (encs (mvL os order)).length⟩
  new : Holds A.ws n (mvL os order)
  old : ∀ (k : Nat) (o : Lo), os[k]? = some o → k ∉ order → ∀ i, i < o.2.length + 2 → A.ws[posL os k + i]? = (encL o)[i]?
  fwd : ∀ (t k : Nat), order[t]? = some k → A.ws[posL os k]? = some (4 * (n + posL (mvL os order) t + 1))
  nd : order.Nodup
  lt : ∀ k ∈ order, k < os.length
theorem encL_at {o : Lo} : (encL o)[0]? = some (packT o.1) ∧ (encL o)[o.2.length + 1]? = some (18446744073709551615 - packT o.1) := by
  constructor
  · rfl
  · unfold encL
    rw [List.getElem?_cons_succ, List.getElem?_append_right (Nat.le_refl _), Nat.sub_self]; rfl
section
variable {n : Nat} {os : List Lo} {order : List Nat} {A : Ar}
theorem Mv.start (hn : n ≤ 65536) (h : LInv n os) : openT (laidA n os) = ((openT (laidA n os)).1, 0) ∧ Mv n os [] (openT (laidA n os)).1 := by
  refine ⟨rfl, openT_ok (laidA_ok hn h.fit h.ok), rfl, rfl, rfl, ?_, fun i hi => absurd hi (Nat.not_lt_zero _), fun k o ho _ i hi => ?_, fun t k h => (by cases h), List.nodup_nil, fun k h => (by cases h)⟩
  · show (⟨n - 0, n - 0⟩ : Sp) = ⟨n, n + 0⟩
    simp
  · have := (h.cells hn ho) i (by rw [encs_clen]; omega)
    rw [encs_cons, List.getElem?_append_left (by rw [encL_length]; omega)] at this
    exact this
theorem Mv.copy (hn : n ≤ 65536) (h : LInv n os) (m : Mv n os order A) {k : Nat} {o : Lo} (ho : os[k]? = some o) :
    (∃ t, order[t]? = some k ∧ copyT A (posL os k + 1) = (A, n + posL (mvL os order) t + 1, 0)) ∨
    (k ∉ order ∧ ∃ A', copyT A (posL os k + 1) = (A', n + (encs (mvL os order)).length + 1, 0) ∧ Mv n os (order ++ [k]) A') := by
  obtain ⟨hok, hpl, _, _⟩ := h.at_ hn ho
  have hp2 := posL_le (os := os) (k + 1)
  rw [posL_succ ho] at hp2
  have hlen := hok.len
  have hml := hok.may.le; have hmk := hok.may.kind
  have hfit := h.fit
  have hkl := (List.getElem?_eq_some_iff.1 ho).1
  have hok' := copyT_ok m.ok (posL os k + 1)
  have hwl := m.ok.len
  rw [m.nn] at hwl
  have huse := m.use; have hnxt := m.nxt; have hopn := m.opn; have hAn := m.nn
  have hmv := mvL_le os order m.nd m.lt
  by_cases hk : k ∈ order
  · left
    obtain ⟨t, ht, rfl⟩ := List.getElem_of_mem hk
    have ht' : order[t]? = some order[t] := List.getElem?_eq_getElem ht
    refine ⟨t, ht', ?_⟩
    have hf := m.fwd t _ ht'
    have hmo : (mvL os order)[t]? = some o := by
      unfold mvL; rw [List.getElem?_map, ht']; show some (os.getD order[t] lo0) = _; rw [List.getD_eq_getElem?_getD, ho]; rfl
    have hcells := (m.new.at_ hmo).head
    have hpm := posL_le (os := mvL os order) (t + 1)
    rw [posL_succ hmo] at hpm
    have hst : stT A A.nxt (n + posL (mvL os order) t + 1) = some o.1 := stT_of (by rw [hnxt]; dsimp only; omega) hok.may (by rw [hnxt]; dsimp only; omega) hcells.1 (by rw [show n + posL (mvL os order) t + o.1.l.toNat + 1 = n + posL (mvL os order) t + o.2.length + 1 by omega]; exact hcells.2.1)
    have hgd : A.ws.getD (posL os order[t] + 1 - 1) 0 = 4 * (n + posL (mvL os order) t + 1) := by
      rw [Nat.add_sub_cancel, List.getD_eq_getElem?_getD, hf]; rfl
    unfold copyT
    rw [hopn, if_neg (by decide), if_neg (by omega), if_neg (by rw [huse]; dsimp only; omega), hgd]
    rw [show 4 * (n + posL (mvL os order) t + 1) % 4 = 0 by omega, show 4 * (n + posL (mvL os order) t + 1) / 4 = n + posL (mvL os order) t + 1 by omega, hst, if_pos ⟨rfl, rfl⟩]
  · right
    refine ⟨hk, ?_⟩
    have hsum := mvL_le os (order ++ [k]) (by
      rw [List.nodup_append]
      refine ⟨m.nd, by simp, fun a ha b hb => ?_⟩
      rw [List.mem_singleton.1 hb]; rintro rfl; exact hk ha) (fun x hx => by
      rcases List.mem_append.1 hx with hx | hx
      · exact m.lt x hx
      · rw [List.mem_singleton.1 hx]; exact hkl)
    have ego : os.getD k lo0 = o := by rw [List.getD_eq_getElem?_getD, ho]; rfl
    rw [mvL_snoc, ego, encs_slen] at hsum
    have hold := m.old k o ho hk
    have hh := hold 0 (by omega)
    rw [Nat.add_zero, encL_at.1] at hh
    have hg := hold (o.2.length + 1) (by omega)
    rw [encL_at.2] at hg
    have hst : stT A A.use (posL os k + 1) = some o.1 := stT_of (by rw [huse]; exact Nat.zero_le _) hok.may (by rw [huse]; dsimp only; omega) hh (by rw [show posL os k + o.1.l.toNat + 1 = posL os k + (o.2.length + 1) by omega]; exact hg)
    have hgd : A.ws.getD (posL os k + 1 - 1) 0 = packT o.1 := by
      rw [Nat.add_sub_cancel, List.getD_eq_getElem?_getD, hh]; rfl
    have hp4 : packT o.1 % 4 ≠ 0 := by unfold packT; omega
    have htk : (A.ws.drop (posL os k + 1 - 1)).take (o.1.l.toNat + 2) = encL o := by
      rw [Nat.add_sub_cancel]
      apply List.ext_getElem?
      intro i
      rw [List.getElem?_take, List.getElem?_drop]
      split
      · rw [hold i (by omega)]
      · rw [List.getElem?_eq_none (by rw [encL_length]; omega)]
    have hcp : copyT A (posL os k + 1) = ({ A with ws := (layL A.ws A.nxt.e (encL o)).set (posL os k) (4 * (A.nxt.e + 1)), nxt := ⟨A.nxt.f, A.nxt.e + o.1.l.toNat + 2⟩ }, A.nxt.e + 1, 0) := by
      unfold copyT
      rw [hopn, if_neg (by decide), if_neg (by omega), if_neg (by rw [huse]; dsimp only; omega), hgd, if_neg (fun h => hp4 h.1), hst]
      dsimp only
      rw [if_neg (by rw [hnxt, hAn]; dsimp only; omega), htk, Nat.add_sub_cancel]
    rw [hcp] at hok' ⊢
    refine ⟨_, by rw [hnxt], hok', hAn, huse, hopn, ?_, ?_, fun k' o' ho' hk' i hi => ?_, fun t k' ht => ?_, ?_, ?_⟩
    · dsimp only
      rw [hnxt, mvL_snoc, ego, encs_slen]
      dsimp only
      congr 1
      omega
    · have hlay : A.nxt.e + (encL o).length ≤ A.ws.length := by rw [encL_length, hnxt]; dsimp only; omega
      intro i hi
      dsimp only
      rw [mvL_snoc, ego] at hi ⊢
      rw [encs_slen] at hi
      rw [List.getElem?_set_ne (by omega), layL_get hlay, encL_length, hnxt]
      dsimp only
      by_cases hi2 : i < (encs (mvL os order)).length
      · rw [if_pos (by omega), m.new i hi2, encs_append, List.getElem?_append_left hi2]
      · rw [if_neg (by omega), if_pos (by omega), encs_append, List.getElem?_append_right (by omega), encs_cons, encs_nil, List.append_nil]
        congr 1
        omega
    · have hlay : A.nxt.e + (encL o).length ≤ A.ws.length := by rw [encL_length, hnxt]; dsimp only; omega
      have hk2 : k' ∉ order ∧ k' ≠ k := ⟨fun h => hk' (List.mem_append_left _ h), fun h => hk' (by rw [h]; exact List.mem_append_right _ (List.mem_singleton_self _))⟩
      obtain ⟨_, hpl', _, _⟩ := h.at_ hn ho'
      have hne : posL os k ≠ posL os k' + i := by
        rcases Nat.lt_or_ge k k' with h1 | h1
        · have := posL_lt ho h1; omega
        · have := posL_lt ho' (show k' < k by omega); omega
      dsimp only
      rw [List.getElem?_set_ne hne, layL_get hlay, if_pos (by rw [hnxt]; dsimp only; omega)]
      exact m.old k' o' ho' hk2.1 i hi
    · have hlay : A.nxt.e + (encL o).length ≤ A.ws.length := by rw [encL_length, hnxt]; dsimp only; omega
      dsimp only
      rw [mvL_snoc, ego]
      rcases Nat.lt_or_ge t order.length with h1 | h1
      · rw [List.getElem?_append_left h1] at ht
        have hkm := List.mem_of_getElem? ht
        have hkl' := m.lt k' hkm
        have ho' : os[k']? = some os[k'] := List.getElem?_eq_getElem hkl'
        obtain ⟨_, hpl', _, _⟩ := h.at_ hn ho'
        have hne : posL os k ≠ posL os k' := by
          have : k ≠ k' := fun e => hk (e ▸ hkm)
          rcases Nat.lt_or_ge k k' with h1 | h1
          · have := posL_lt ho h1; omega
          · have := posL_lt ho' (show k' < k by omega); omega
        rw [List.getElem?_set_ne hne, layL_get hlay, if_pos (by rw [hnxt]; dsimp only; omega), posL_append (by rw [mvL_length]; omega)]
        exact m.fwd t k' ht
      · have h2 := (List.getElem?_eq_some_iff.1 ht).1
        rw [List.length_append, List.length_singleton] at h2
        have h3 : t = order.length := by omega
        rw [List.getElem?_append_right h1, h3, Nat.sub_self] at ht
        injection ht with ht
        subst ht
        rw [List.getElem?_set, if_pos rfl, if_pos (by rw [layL_len hlay]; omega), h3, posL_append (by rw [mvL_length]; exact Nat.le_refl _), posL_all (by rw [mvL_length]; exact Nat.le_refl _), hnxt]
    · rw [List.nodup_append]
      refine ⟨m.nd, by simp, fun a ha b hb => ?_⟩
      rw [List.mem_singleton.1 hb]; rintro rfl; exact hk ha
    · intro x hx
      rcases List.mem_append.1 hx with hx | hx
      · exact m.lt x hx
      · rw [List.mem_singleton.1 hx]; exact hkl
end
end Go.Proofs.Ytcmmdaginkhomaa.V
