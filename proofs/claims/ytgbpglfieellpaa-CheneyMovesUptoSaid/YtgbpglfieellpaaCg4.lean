/-
  What laid lays: the plain law.
-/
import Derived.Test.YtgbpglfieellpaaCwA
namespace Go.Proofs.Ytgbpglfieellpaa.V
open Go Go.RowKit
set_option linter.unusedVariables false
set_option linter.unusedSimpArgs false
set_option maxRecDepth 100000

def posR (ts : List Th) (i : Nat) : Nat := roomT (ts.take i)
theorem posR_succ {ts : List Th} {i : Nat} {t : Th} (h : ts[i]? = some t) : posR ts (i + 1) = posR ts i + lenT t + 2 := roomT_snoc h
theorem roomT_append (a b : List Th) : roomT (a ++ b) = roomT a + roomT b := by unfold roomT; rw [List.map_append, List.sum_append]
theorem posR_le (ts : List Th) (i : Nat) : posR ts i ≤ roomT ts := by
  conv => rhs; rw [← List.take_append_drop i ts, roomT_append]
  unfold posR; omega
theorem posR_all {ts : List Th} {i : Nat} (h : ts.length ≤ i) : posR ts i = roomT ts := by unfold posR; rw [List.take_of_length_le h]
theorem posR_mono {ts : List Th} {i j : Nat} (h : i ≤ j) : posR ts i ≤ posR ts j := by
  have e : ts.take i = (ts.take j).take i := by rw [List.take_take, Nat.min_eq_left h]
  have := posR_le (ts.take j) i
  unfold posR at this ⊢
  rw [e]; exact this
def cells0 (t : Th) : List Nat := (List.range (lenT t)).map fun a => if kindT t ≠ 3 ∧ a < cN t then t.cs.getD a 0 else 0
theorem cells0_len (t : Th) : (cells0 t).length = lenT t := by simp [cells0]
theorem cells0_get {t : Th} {a : Nat} (h : a < lenT t) : (cells0 t)[a]? = some (if kindT t ≠ 3 ∧ a < cN t then t.cs.getD a 0 else 0) := by
  unfold cells0
  rw [List.getElem?_map, List.getElem?_range h]; rfl
theorem cells0_lt {t : Th} (h : ∀ y ∈ t.cs, y < 18446744073709551616) : ∀ x ∈ cells0 t, x < 18446744073709551616 := by
  intro x hx
  unfold cells0 at hx
  obtain ⟨a, _, rfl⟩ := List.mem_map.1 hx
  split
  · rw [List.getD_eq_getElem?_getD]
    cases hc : t.cs[a]? with
    | none => decide
    | some y => exact h y (List.mem_of_getElem? hc)
  · decide
def cellZ (t : Th) (a : Nat) : Nat := if kindT t ≠ 3 ∧ a < cN t then t.cs.getD a 0 else 0
theorem cellV_z {N : Nat} {to : Nat → Nat} {t : Th} {a : Nat} (h : namT N t a = none) : cellV N to t a = cellZ t a := by unfold cellV; rw [h]; rfl
/-- the first loop -/
structure LayP (ts : List Th) (A0 : Ar) (i : Nat) (A : Ar) : Prop where
  ok : A.Ok
  nn : A.n = A0.n
  opn : A.opn = false
  use : A.use = ⟨A0.use.f, A0.use.e + posR ts i⟩
  at_ : ∀ j t, j < i → ts[j]? = some t → ObjAt A.ws (A0.use.e + posR ts j) (hdrT t) (cellZ t)
  rest : ∀ a, (a < A0.use.e ∨ A0.use.e + posR ts i ≤ a) → A.ws[a]? = A0.ws[a]?
theorem LayP.start {ts : List Th} {A0 : Ar} (ok : A0.Ok) (ho : A0.opn = false) : LayP ts A0 0 A0 :=
  ⟨ok, rfl, ho, rfl, fun j t h => by omega, fun a _ => rfl⟩
theorem LayP.make {ts : List Th} {A0 A : Ar} {i : Nat} {t : Th} (h : LayP ts A0 i A) (ok0 : A0.Ok) (ht : ts[i]? = some t) (hc : ∀ y ∈ t.cs, y < 18446744073709551616) (hfit : A0.use.e - A0.use.f + roomT ts ≤ A0.n) :
    ∃ A', makeT A (hdrT t) (cells0 t) = (A', A0.use.e + posR ts i + 1, 0) ∧ LayP ts A0 (i + 1) A' := by
  have hle := posR_le ts (i + 1)
  rw [posR_succ ht] at hle
  have hu0 := ok0.use1
  have hue : A.use.e = A0.use.e + posR ts i := by rw [h.use]
  have huf : A.use.f = A0.use.f := by rw [h.use]
  have hlen := h.ok.len
  have hin := h.ok.use1
  have hin2 := h.ok.useIn
  have nn := h.nn
  have hl := hl_nat t
  have hcl := cells0_len t
  have e : makeT A (hdrT t) (cells0 t) = ({ A with ws := layL A.ws A.use.e (packT (hdrT t) :: (cells0 t ++ [18446744073709551615 - packT (hdrT t)])), use := ⟨A.use.f, A.use.e + (cells0 t).length + 2⟩ }, A.use.e + 1, 0) := by
    unfold makeT
    rw [if_pos ⟨decide_eq_true (hdrT_may t), by rw [hcl, hdrT_l], h.opn⟩, if_neg (by rw [hcl]; omega)]
  have hok := makeT_ok h.ok (hd := hdrT t) (cells0_lt hc)
  rw [e] at hok
  have hX : (packT (hdrT t) :: (cells0 t ++ [18446744073709551615 - packT (hdrT t)])).length = lenT t + 2 := by simp [hcl]
  have hroom : A.use.e + (lenT t + 2) ≤ A.ws.length := by
    have hs := h.ok.use
    omega
  have hW : ∀ a, (layL A.ws A.use.e (packT (hdrT t) :: (cells0 t ++ [18446744073709551615 - packT (hdrT t)])))[a]? = if a < A.use.e then A.ws[a]? else if a < A.use.e + (lenT t + 2) then (packT (hdrT t) :: (cells0 t ++ [18446744073709551615 - packT (hdrT t)]))[a - A.use.e]? else A.ws[a]? := by
    intro a
    rw [layL_get (by rw [hX]; exact hroom), hX]
  refine ⟨_, ?_, hok, nn, h.opn, ?_, fun j u hj hu => ?_, fun a ha => ?_⟩
  · rw [e, hue]
  · dsimp only
    rw [huf, hue, hcl, posR_succ ht]
    simp only [Nat.add_assoc]
  · rcases Nat.lt_or_ge j i with hji | hji
    · have hm := posR_mono (ts := ts) (i := j + 1) (j := i) hji
      rw [posR_succ hu] at hm
      refine (h.at_ j u hji hu).congr (fun a ha1 ha2 => ?_) fun _ _ => rfl
      rw [hl_nat] at ha2
      rw [hW, if_pos (by omega)]
    · have hij : j = i := by omega
      subst hij
      rw [ht] at hu; injection hu with hu; subst hu
      refine ⟨?_, fun a ha => ?_, ?_⟩
      · rw [hW, if_neg (by omega), if_pos (by omega), show A0.use.e + posR ts j - A.use.e = 0 by omega]; rfl
      · rw [hl] at ha
        rw [hW, if_neg (by omega), if_pos (by omega), show A0.use.e + posR ts j + 1 + a - A.use.e = a + 1 by omega, List.getElem?_cons_succ, List.getElem?_append_left (by rw [hcl]; exact ha), cells0_get ha]; rfl
      · rw [hl, hW, if_neg (by omega), if_pos (by omega), show A0.use.e + posR ts j + lenT t + 1 - A.use.e = lenT t + 1 by omega, List.getElem?_cons_succ, List.getElem?_append_right (by rw [hcl]; exact Nat.le_refl _), hcl, Nat.sub_self]; rfl
  · rw [posR_succ ht] at ha
    dsimp only
    rw [hW]
    by_cases h5 : a < A.use.e
    · rw [if_pos h5]; exact h.rest a (by omega)
    · rw [if_neg h5, if_neg (by omega)]; exact h.rest a (by omega)
def toR (ts : List Th) (e0 : Nat) (m : Nat) : Nat := e0 + posR ts m + 1
def valS (ts : List Th) (e0 i c j : Nat) (t : Th) (a : Nat) : Nat := if j < i ∨ (j = i ∧ a < c) then cellV ts.length (toR ts e0) t a else cellZ t a
/-- the second loop -/
structure LayS (ts : List Th) (A0 : Ar) (i c : Nat) (A : Ar) : Prop where
  ok : A.Ok
  nn : A.n = A0.n
  opn : A.opn = false
  use : A.use = ⟨A0.use.f, A0.use.e + roomT ts⟩
  at_ : ∀ j t, ts[j]? = some t → ObjAt A.ws (A0.use.e + posR ts j) (hdrT t) (valS ts A0.use.e i c j t)
  rest : ∀ a, (a < A0.use.e ∨ A0.use.e + roomT ts ≤ a) → A.ws[a]? = A0.ws[a]?
theorem LayP.second {ts : List Th} {A0 A : Ar} (h : LayP ts A0 ts.length A) : LayS ts A0 0 0 A := by
  refine ⟨h.ok, h.nn, h.opn, by rw [h.use, posR_all (Nat.le_refl _)], fun j t ht => ?_, fun a ha => h.rest a (by rw [posR_all (Nat.le_refl _)]; exact ha)⟩
  refine (h.at_ j t (List.getElem?_eq_some_iff.1 ht).1 ht).congr (fun _ _ _ => rfl) fun a ha => ?_
  unfold valS
  rw [if_neg (by omega)]
section
variable {ts : List Th} {A0 A : Ar} {i c : Nat} {t : Th}
theorem LayS.next (h : LayS ts A0 i c A) (ht : ts[i]? = some t) (hc : lenT t ≤ c) : LayS ts A0 (i + 1) 0 A := by
  refine ⟨h.ok, h.nn, h.opn, h.use, fun j u hu => ?_, h.rest⟩
  refine (h.at_ j u hu).congr (fun _ _ _ => rfl) fun a ha => ?_
  rw [hl_nat] at ha
  unfold valS
  by_cases hj : j = i
  · subst hj
    rw [ht] at hu; injection hu with hu; subst hu
    rw [if_pos (by omega), if_pos (by omega)]
  · by_cases hj2 : j < i
    · rw [if_pos (by omega), if_pos (by omega)]
    · rw [if_neg (by omega), if_neg (by omega)]
theorem LayS.skip (h : LayS ts A0 i c A) (ht : ts[i]? = some t) (hn : namT ts.length t c = none) : LayS ts A0 i (c + 1) A := by
  refine ⟨h.ok, h.nn, h.opn, h.use, fun j u hu => ?_, h.rest⟩
  refine (h.at_ j u hu).congr (fun _ _ _ => rfl) fun a ha => ?_
  unfold valS
  by_cases hj : j = i ∧ a = c
  · obtain ⟨rfl, rfl⟩ := hj
    rw [ht] at hu; injection hu with hu; subst hu
    rw [if_pos (by omega), if_neg (by omega), cellV_z hn]
  · by_cases hj2 : j < i ∨ (j = i ∧ a < c)
    · rw [if_pos (by omega), if_pos hj2]
    · rw [if_neg (by omega), if_neg hj2]
theorem LayS.head (h : LayS ts A0 i c A) (ok0 : A0.Ok) {j : Nat} {u : Th} (hu : ts[j]? = some u) : headT A (A0.use.e + posR ts j + 1) = some (hdrT u) := by
  have hle := posR_le ts (j + 1)
  rw [posR_succ hu] at hle
  have hu0 := ok0.use1
  have hst : stT A A.use (A0.use.e + posR ts j + 1) = some (hdrT u) := (h.at_ j u hu).st (hdrT_may _) (by rw [h.use]; dsimp only; omega) (by rw [h.use, hl_nat]; dsimp only; omega)
  unfold headT
  rw [hst]
theorem LayS.set (h : LayS ts A0 i c A) (ok0 : A0.Ok) (ht : ts[i]? = some t) (hc : c < lenT t) {k : Nat} (hn : namT ts.length t c = some k) :
    ∃ A', setO A (A0.use.e + posR ts i + 1) (c : Nat) (toR ts A0.use.e k) = (A', 0) ∧ LayS ts A0 i (c + 1) A' := by
  have hle := posR_le ts (i + 1)
  rw [posR_succ ht] at hle
  have hlen := h.ok.len; have hin := h.ok.useIn; have nn := h.nn
  have hue : A.use.e = A0.use.e + roomT ts := by rw [h.use]
  have hn16 := h.ok.n
  have hk := posR_le ts k
  have hpl : placeT A (A0.use.e + posR ts i + 1) (c : Nat) = some (A0.use.e + posR ts i + 1 + c) := by
    unfold placeT
    rw [h.head ok0 ht]
    dsimp only
    rw [if_pos (by rw [hdrT_l]; omega), Int.toNat_natCast]
  have e : setO A (A0.use.e + posR ts i + 1) (c : Nat) (toR ts A0.use.e k) = (A.put (A0.use.e + posR ts i + 1 + c) (toR ts A0.use.e k), 0) := by
    unfold setO; rw [hpl]
  have hx : toR ts A0.use.e k < 18446744073709551616 := by unfold toR; omega
  have hW : ∀ a, (A.put (A0.use.e + posR ts i + 1 + c) (toR ts A0.use.e k)).ws[a]? = if a = A0.use.e + posR ts i + 1 + c then some (toR ts A0.use.e k) else A.ws[a]? := by
    intro a
    show (A.ws.set _ _)[a]? = _
    rw [List.getElem?_set]
    by_cases h5 : a = A0.use.e + posR ts i + 1 + c
    · rw [if_pos h5.symm, if_pos (by omega), if_pos h5]
    · rw [if_neg (Ne.symm h5), if_neg h5]
  refine ⟨_, e, h.ok.put hx, h.nn, h.opn, h.use, fun j u hu => ?_, fun a ha => ?_⟩
  · have ho := h.at_ j u hu
    by_cases hj : j = i
    · subst hj
      rw [ht] at hu; injection hu with hu; subst hu
      refine ⟨by rw [hW, if_neg (by omega)]; exact ho.hd, fun a ha => ?_, by rw [hl_nat, hW, if_neg (by omega)]; have := ho.gd; rw [hl_nat] at this; exact this⟩
      have hoc := ho.cells a ha
      rw [hW]
      by_cases hac : a = c
      · subst hac
        rw [if_pos rfl]
        unfold valS
        rw [if_pos (by omega), cellV_some hn]
      · rw [if_neg (by omega), hoc]
        unfold valS
        by_cases hj2 : a < c
        · rw [if_pos (by omega), if_pos (by omega)]
        · rw [if_neg (by omega), if_neg (by omega)]
    · have hap : posR ts j + lenT u + 2 ≤ posR ts i ∨ posR ts i + lenT t + 2 ≤ posR ts j := by
        rcases Nat.lt_or_ge j i with hlt | hge
        · have := posR_mono (ts := ts) (i := j + 1) (j := i) hlt
          rw [posR_succ hu] at this; omega
        · have := posR_mono (ts := ts) (i := i + 1) (j := j) (by omega)
          rw [posR_succ ht] at this; omega
      refine ho.congr (fun a ha1 ha2 => ?_) fun a ha => ?_
      · rw [hl_nat] at ha2
        rw [hW, if_neg (by omega)]
      · unfold valS
        by_cases hj2 : j < i
        · rw [if_pos (by omega), if_pos (by omega)]
        · rw [if_neg (by omega), if_neg (by omega)]
  · rw [hW, if_neg (by omega)]
    exact h.rest a ha
def tsT (ts : List Th) (j : Nat) : Th := ts.getD j ⟨0, 0, [], []⟩
theorem tsT_at {ts : List Th} {j : Nat} {t : Th} (h : ts[j]? = some t) : tsT ts j = t := by unfold tsT; rw [List.getD_eq_getElem?_getD, h]; rfl
theorem szQ_range (ts : List Th) : szQ (tsT ts) (List.range ts.length) = roomT ts := by
  unfold szQ roomT
  congr 1
  apply List.ext_getElem
  · simp
  · intro a h1 h2
    simp only [List.length_map, List.length_range] at h1
    simp [tsT, h1]
/-- all is laid -/
theorem LayS.done (h : LayS ts A0 ts.length 0 A) (ok0 : A0.Ok) (hfit : roomT ts ≤ A0.n) : Laid (tsT ts) ts.length A0.n A0.use.f (List.range ts.length) (fun m => A0.use.e + posR ts m) A := by
  have hu0 := ok0.use1
  have at_ : ∀ j ∈ List.range ts.length, ts[j]? = some (tsT ts j) := fun j hj => by
    have hj := List.mem_range.1 hj
    have : ts[j]? = some ts[j] := List.getElem?_eq_getElem hj
    rw [tsT_at this]; exact this
  refine ⟨h.ok, h.nn, h.opn, by rw [h.use], fun j hj => ?_, fun j hj k hk hne => ?_, List.nodup_range, by rw [szQ_range]; exact hfit, fun j hj i hi k hk => List.mem_range.2 (namT_lt hk)⟩
  · have ht := at_ j hj
    have hle := posR_le ts (j + 1)
    rw [posR_succ ht] at hle
    refine ⟨by omega, by rw [h.use]; dsimp only; omega, (h.at_ j _ ht).congr (fun _ _ _ => rfl) fun a ha => ?_⟩
    unfold valS
    rw [if_pos (.inl (List.mem_range.1 hj))]
    rfl
  · have hj' := at_ j hj; have hk' := at_ k hk
    rcases Nat.lt_or_ge j k with hlt | hge
    · have := posR_mono (ts := ts) (i := j + 1) (j := k) hlt
      rw [posR_succ hj'] at this; omega
    · have := posR_mono (ts := ts) (i := k + 1) (j := j) (by omega)
      rw [posR_succ hk'] at this; omega
end
end Go.Proofs.Ytgbpglfieellpaa.V
