/-
  Objects laid one behind the other: the plain law.
-/
import Derived.Test.YtcmmdaginkhomaaPl1
namespace Go.Proofs.Ytcmmdaginkhomaa.V
open Go Go.RowKit
set_option linter.unusedVariables false
set_option linter.unusedSimpArgs false
set_option maxRecDepth 100000

abbrev Lo := Hd × List Nat
def encL (o : Lo) : List Nat := packT o.1 :: (o.2 ++ [18446744073709551615 - packT o.1])
def encs (os : List Lo) : List Nat := os.flatMap encL
theorem encL_length (o : Lo) : (encL o).length = o.2.length + 2 := by simp [encL]
theorem encs_nil : encs [] = [] := rfl
theorem encs_cons (o : Lo) (os : List Lo) : encs (o :: os) = encL o ++ encs os := List.flatMap_cons
theorem encs_append (X Y : List Lo) : encs (X ++ Y) = encs X ++ encs Y := List.flatMap_append
theorem encs_clen (o : Lo) (os : List Lo) : (encs (o :: os)).length = o.2.length + 2 + (encs os).length := by rw [encs_cons, List.length_append, encL_length]
theorem encs_slen (X : List Lo) (o : Lo) : (encs (X ++ [o])).length = (encs X).length + o.2.length + 2 := by rw [encs_append, List.length_append, encs_clen, encs_nil, List.length_nil]; omega
structure LoOk (o : Lo) : Prop where
  may : MayT o.1
  len : (o.2.length : Int) = o.1.l
  lt : ∀ x ∈ o.2, x < 9223372036854775808
theorem enc_lt {o : Lo} (h : LoOk o) : ∀ x ∈ encL o, x < 18446744073709551616 := by
  intro x hx
  have hp := pack_lt h.may
  rcases List.mem_cons.1 hx with rfl | hx
  · omega
  · rcases List.mem_append.1 hx with hx | hx
    · have := h.lt x hx; omega
    · rw [List.mem_singleton.1 hx]; omega
def laidA (n : Nat) (os : List Lo) : Ar := ⟨n, encs os ++ List.replicate (2 * n - (encs os).length) 0, ⟨0, (encs os).length⟩, ⟨0, 0⟩, false⟩
theorem laidA_ok {n : Nat} {os : List Lo} (hn : n ≤ 65536) (hl : (encs os).length ≤ n) (h : ∀ o ∈ os, LoOk o) : (laidA n os).Ok :=
  ⟨hn, by show (encs os ++ List.replicate _ 0).length = _; rw [List.length_append, List.length_replicate]; show _ = 2 * n; omega, fun x hx => by
    rcases List.mem_append.1 hx with hx | hx
    · obtain ⟨o, ho, hx⟩ := List.mem_flatMap.1 hx
      exact enc_lt (h o ho) x hx
    · rw [List.eq_of_mem_replicate hx]; decide, .inl rfl, ⟨Nat.zero_le _, by show (encs os).length ≤ 0 + n; omega⟩, fun h => (by cases h), fun _ => rfl⟩
theorem laidA_new (n : Nat) : newA n = laidA n [] := by
  unfold newA laidA; rw [encs_nil]; rfl
theorem make_laid {n : Nat} {os : List Lo} {o : Lo} (hl : (encs os).length ≤ n) (ho : LoOk o) :
    makeT (laidA n os) o.1 o.2 = if n - (encs os).length < o.2.length + 2 then (laidA n os, 0, 18) else (laidA n (os ++ [o]), (encs os).length + 1, 0) := by
  have hm : mayT o.1 = true := decide_eq_true ho.may
  unfold makeT
  rw [if_pos ⟨hm, ho.len, rfl⟩]
  show (if n - ((encs os).length - 0) < o.2.length + 2 then _ else _) = _
  rw [Nat.sub_zero]
  split
  · rfl
  · rename_i hh
    have e1 : layL (encs os ++ List.replicate (2 * n - (encs os).length) 0) (encs os).length (packT o.1 :: (o.2 ++ [18446744073709551615 - packT o.1])) = encs (os ++ [o]) ++ List.replicate (2 * n - (encs (os ++ [o])).length) 0 := by
      unfold layL
      rw [List.take_left, encs_append, encs_cons, encs_nil, List.append_nil]
      congr 1
      rw [List.drop_append]
      show _ = List.replicate (2 * n - (encs os ++ encL o).length) 0
      have : (packT o.1 :: (o.2 ++ [18446744073709551615 - packT o.1])).length = o.2.length + 2 := by simp
      rw [this, List.drop_of_length_le (by omega), List.nil_append, List.drop_replicate, List.length_append, encL_length]
      congr 1
      omega
    have e2 : (encs os).length + o.2.length + 2 = (encs (os ++ [o])).length := (encs_slen os o).symm
    show (Ar.mk n (layL (encs os ++ List.replicate (2 * n - (encs os).length) 0) (encs os).length (packT o.1 :: (o.2 ++ [18446744073709551615 - packT o.1]))) ⟨0, (encs os).length + o.2.length + 2⟩ ⟨0, 0⟩ false, _, _) = _
    rw [e1, e2]; rfl
theorem stT_of {A : Ar} {s : Sp} {p : Nat} {h : Hd} (hf : s.f ≤ p) (m : MayT h) (he : p + h.l.toNat + 2 ≤ s.e) (h1 : A.ws[p]? = some (packT h)) (h2 : A.ws[p + h.l.toNat + 1]? = some (18446744073709551615 - packT h)) : stT A s (p + 1) = some h := by
  unfold stT
  rw [if_pos (by omega), Nat.add_sub_cancel, h1]
  dsimp only
  rw [unp_pack m, if_pos ⟨decide_eq_true m, he, h2⟩]
/-- the words from p on are these objects' -/
def Holds (ws : List Nat) (p : Nat) (os : List Lo) : Prop := ∀ i, i < (encs os).length → ws[p + i]? = (encs os)[i]?
theorem Holds.head {ws : List Nat} {p : Nat} {o : Lo} {os : List Lo} (h : Holds ws p (o :: os)) : ws[p]? = some (packT o.1) ∧ ws[p + o.2.length + 1]? = some (18446744073709551615 - packT o.1) ∧ ∀ i, i < o.2.length → ws[p + 1 + i]? = o.2[i]? := by
  have hl := encs_clen o os
  refine ⟨?_, ?_, fun i hi => ?_⟩
  · have := h 0 (by omega); rw [Nat.add_zero] at this; rw [this]; rfl
  · have := h (o.2.length + 1) (by omega)
    rw [show p + (o.2.length + 1) = p + o.2.length + 1 by omega] at this
    rw [this, encs_cons, List.getElem?_append_left (by rw [encL_length]; omega)]
    unfold encL
    rw [List.getElem?_cons_succ, List.getElem?_append_right (Nat.le_refl _), Nat.sub_self]; rfl
  · have := h (i + 1) (by omega)
    rw [show p + (i + 1) = p + 1 + i by omega] at this
    rw [this, encs_cons, List.getElem?_append_left (by rw [encL_length]; omega)]
    unfold encL
    rw [List.getElem?_cons_succ, List.getElem?_append_left hi]
theorem Holds.tail {ws : List Nat} {p : Nat} {o : Lo} {os : List Lo} (h : Holds ws p (o :: os)) : Holds ws (p + o.2.length + 2) os := by
  intro i hi
  have hl := encs_clen o os
  have := h (o.2.length + 2 + i) (by omega)
  rw [show p + (o.2.length + 2 + i) = p + o.2.length + 2 + i by omega] at this
  rw [this, encs_cons, List.getElem?_append_right (by rw [encL_length]; omega), encL_length]
  congr 1
  omega
theorem Holds.left {ws : List Nat} {p : Nat} {X Y : List Lo} (h : Holds ws p (X ++ Y)) : Holds ws p X := by
  intro i hi
  rw [h i (by rw [encs_append, List.length_append]; omega), encs_append, List.getElem?_append_left hi]
theorem Holds.right {ws : List Nat} {p : Nat} {X Y : List Lo} (h : Holds ws p (X ++ Y)) : Holds ws (p + (encs X).length) Y := by
  intro i hi
  rw [show p + (encs X).length + i = p + ((encs X).length + i) by omega, h _ (by rw [encs_append, List.length_append]; omega), encs_append, List.getElem?_append_right (by omega)]
  congr 1
  omega
/-- the objects with their places -/
def objsL : Nat → List Lo → List Ob
  | _, [] => []
  | p, o :: r => (p + 1, o.1) :: objsL (p + o.2.length + 2) r
theorem objsL_length : ∀ (p : Nat) (os : List Lo), (objsL p os).length = os.length
  | _, [] => rfl
  | p, o :: r => by unfold objsL; rw [List.length_cons, List.length_cons, objsL_length]
theorem objsL_append : ∀ (p : Nat) (X Y : List Lo), objsL p (X ++ Y) = objsL p X ++ objsL (p + (encs X).length) Y
  | p, [], Y => by rw [encs_nil]; rfl
  | p, o :: r, Y => by
    show _ :: objsL (p + o.2.length + 2) (r ++ Y) = _
    rw [objsL_append, encs_clen]
    show _ = _ :: (objsL (p + o.2.length + 2) r ++ _)
    congr 3
    omega
theorem path_of {A : Ar} : ∀ (os : List Lo) (p : Nat), (∀ o ∈ os, LoOk o) → Holds A.ws p os → A.use.f ≤ p → p + (encs os).length ≤ A.use.e → Path A p (objsL p os) (p + (encs os).length)
  | [], p, _, _, _, _ => .nil
  | o :: r, p, hok, hh, hf, he => by
    have ho := hok o (List.mem_cons_self ..)
    have hl := encs_clen o r
    have hlen := ho.len
    obtain ⟨h1, h2, _⟩ := hh.head
    have hs : stT A A.use (p + 1) = some o.1 := stT_of hf ho.may (by omega) h1 (by rw [show p + o.1.l.toNat + 1 = p + o.2.length + 1 by omega]; exact h2)
    have ih := path_of (A := A) r (p + o.2.length + 2) (fun x hx => hok x (List.mem_cons_of_mem _ hx)) hh.tail (by omega) (by omega)
    rw [encs_clen, show p + (o.2.length + 2 + (encs r).length) = p + o.2.length + 2 + (encs r).length by omega]
    refine .cons hs ?_
    rw [show p + o.1.l.toNat + 2 = p + o.2.length + 2 by omega]
    exact ih
theorem laid_holds (n : Nat) (os : List Lo) : Holds (laidA n os).ws 0 os := by
  intro i hi
  rw [Nat.zero_add]
  exact List.getElem?_append_left hi
theorem allT_laid {n : Nat} {os : List Lo} (hn : n ≤ 65536) (hl : (encs os).length ≤ n) (h : ∀ o ∈ os, LoOk o) : allT (laidA n os) = (objsL 0 os, (encs os).length) := by
  have hp := path_of (A := laidA n os) os 0 h (laid_holds n os) (Nat.le_refl _) (by show 0 + _ ≤ (encs os).length; omega)
  rw [Nat.zero_add] at hp
  refine allT_eq (laidA_ok hn hl h) hp ?_
  unfold stT
  rw [if_neg]
  show ¬ (0 < (encs os).length + 1 ∧ (encs os).length + 1 ≤ (encs os).length)
  omega
theorem thereT_iff {l : List Ob} {x : Nat} : thereT l x = true ↔ x = 0 ∨ ∃ o ∈ l, o.1 = x := by
  unfold thereT
  rw [Bool.or_eq_true, beq_iff_eq, List.any_eq_true]
  simp only [beq_iff_eq]
/-- references name objects that were laid before -/
def RefsOk (os : List Lo) : Prop := ∀ X o Y, os = X ++ o :: Y → ∀ i, i < o.2.length → refT o.1 i = true → thereT (objsL 0 X) (o.2.getD i 0) = true
theorem objs_split : ∀ (p : Nat) (os : List Lo) (o : Ob), o ∈ objsL p os → ∃ X x Y, os = X ++ x :: Y ∧ o = (p + (encs X).length + 1, x.1)
  | p, [], o, h => (by cases h)
  | p, x :: r, o, h => by
    rcases List.mem_cons.1 h with rfl | h
    · exact ⟨[], x, r, rfl, rfl⟩
    · obtain ⟨X, y, Y, rfl, rfl⟩ := objs_split _ _ _ h
      refine ⟨x :: X, y, Y, rfl, ?_⟩
      rw [encs_clen]
      congr 1
      omega
theorem checkT_laid {n : Nat} {os : List Lo} (hn : n ≤ 65536) (hl : (encs os).length ≤ n) (h : ∀ o ∈ os, LoOk o) (hr : RefsOk os) : checkT (laidA n os) = (0, 0) := by
  unfold checkT
  rw [allT_laid hn hl h]
  dsimp only
  have e0 : (encs os).length = (laidA n os).use.e := rfl
  rw [if_pos e0, List.find?_eq_none.2]
  intro o ho
  rw [Bool.not_eq_true]
  obtain ⟨X, x, Y, rfl, rfl⟩ := objs_split _ _ _ ho
  have hx := h x (by simp)
  have hlen := hx.len
  refine badT_false fun i hi => ?_
  dsimp only at hi
  have hi' : i < x.2.length := by omega
  unfold badC
  cases hrf : refT x.1 i with
  | false => rfl
  | true =>
    have h1 := hr X x Y rfl i hi' hrf
    have h2 := ((laid_holds n (X ++ x :: Y)).right.head).2.2 i hi'
    have e : (laidA n (X ++ x :: Y)).ws.getD ((0 + (encs X).length + 1) + i) 0 = x.2.getD i 0 := by
      rw [List.getD_eq_getElem?_getD, List.getD_eq_getElem?_getD, h2]
    dsimp only
    rw [e]
    have : thereT (objsL 0 (X ++ x :: Y)) (x.2.getD i 0) = true := by
      rw [thereT_iff] at h1 ⊢
      rcases h1 with h1 | ⟨o, ho, h1⟩
      · exact .inl h1
      · exact .inr ⟨o, by rw [objsL_append]; exact List.mem_append_left _ ho, h1⟩
    rw [this]; rfl
end Go.Proofs.Ytcmmdaginkhomaa.V
