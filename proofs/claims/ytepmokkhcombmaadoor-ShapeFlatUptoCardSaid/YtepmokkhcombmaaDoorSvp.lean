/-
  What is told of renamed rows, of rows without references, and of a chain: no program in sight.
-/
import Derived.Test.YtepmokkhcombmaaDoorSva
namespace Go.Proofs.YtepmokkhcombmaaDoor.V
open Go Go.RowKit
set_option linter.unusedVariables false
set_option linter.unusedSimpArgs false
set_option linter.unusedSectionVars false
set_option maxRecDepth 100000

abbrev M64 : Nat := 18446744073709551616
theorem odd_dvd : ∀ (k x b : Nat), b % 2 = 1 → 2 ^ k ∣ x * b → 2 ^ k ∣ x
  | 0, x, b, _, _ => by rw [Nat.pow_zero]; exact Nat.one_dvd _
  | k + 1, x, b, hb, h => by
    have h2 : (x * b) % 2 = 0 := by
      obtain ⟨c, hc⟩ := h
      rw [hc, Nat.pow_succ, Nat.mul_assoc, Nat.mul_comm, Nat.mul_assoc]
      exact Nat.mul_mod_right _ _
    have hx : x % 2 = 0 := by
      rw [Nat.mul_mod, hb, Nat.mul_one] at h2
      omega
    obtain ⟨y, rfl⟩ : ∃ y, x = 2 * y := ⟨x / 2, by omega⟩
    have h3 : 2 ^ k ∣ y * b := by
      obtain ⟨c, hc⟩ := h
      refine ⟨c, ?_⟩
      have e : 2 * (y * b) = 2 * (2 ^ k * c) := by rw [← Nat.mul_assoc, hc, Nat.pow_succ]; simp only [Nat.mul_comm, Nat.mul_left_comm]
      omega
    obtain ⟨c, hc⟩ := odd_dvd k y b hb h3
    exact ⟨c, by rw [hc, Nat.pow_succ]; simp only [Nat.mul_comm, Nat.mul_left_comm]⟩
theorem odd_zero {x b : Nat} (hb : b % 2 = 1) (hx : x < M64) (h : (x * b) % M64 = 0) : x = 0 := by
  obtain ⟨c, hc⟩ := odd_dvd 64 x b hb (Nat.dvd_of_mod_eq_zero h)
  have : (2 : Nat) ^ 64 = M64 := by decide
  rw [this] at hc
  match c, hc with
  | 0, hc => exact hc
  | c + 1, hc => rw [Nat.mul_succ] at hc; omega
theorem odd_inj' {x y b : Nat} (hb : b % 2 = 1) (hx : x < M64) (hy : y ≤ x) (h : (x * b) % M64 = (y * b) % M64) : x = y := by
  have h2 : ((x - y) * b) % M64 = 0 := by
    have e : x * b = (x - y) * b + y * b := by rw [← Nat.add_mul]; congr 1; omega
    generalize (x - y) * b = p at *
    generalize y * b = q at *
    rw [e] at h
    unfold M64 at *
    omega
  have := odd_zero hb (by omega) h2
  omega
theorem odd_inj {x y b : Nat} (hb : b % 2 = 1) (hx : x < M64) (hy : y < M64) (h : (x * b) % M64 = (y * b) % M64) : x = y := by
  rcases Nat.le_total y x with h1 | h1
  · exact odd_inj' hb hx h1 h
  · exact (odd_inj' hb hy h1 h.symm).symm

/-! ### renamed -/
structure Ren (φ : Nat → Nat) : Prop where
  inj : ∀ x y, x < M64 → y < M64 → φ x = φ y → x = y
  zero : φ 0 = 0
  lt : ∀ x, φ x < M64
def renC (φ : Nat → Nat) (c : Cl) : Cl := ⟨c.ref, φ c.id, c.text⟩
def renR (φ : Nat → Nat) (r : Rp) : Rp := ⟨r.fn, r.pl, r.loc.map (renC φ), r.stk.map (renC φ)⟩
def renT (φ : Nat → Nat) (t : Th) : Th := ⟨φ t.id, t.lab, t.cells.map (renC φ)⟩
def renO (φ : Nat → Nat) (x : Ob) : Ob := ⟨x.lab, x.cells.map (renC φ)⟩
theorem ren_by {b : Nat} (hb : b % 2 = 1) : Ren fun x => (x * b) % M64 := ⟨fun x y hx hy h => odd_inj hb hx hy h, by simp, fun x => Nat.mod_lt _ (by decide)⟩
section
variable {φ : Nat → Nat} (P : Ren φ) {m : List Nat} {id i n f : Nat} {c : Cl} {l : List Cl} {r : Rp} {R : List Rp} {x : Ob} {of_ of' : Nat → Ob}
include P
theorem ren_mem (hi : id < M64) (hm : ∀ x ∈ m, x < M64) : φ id ∈ m.map φ ↔ id ∈ m := by
  rw [List.mem_map]
  constructor
  · rintro ⟨y, hy, e⟩
    rw [← P.inj y id (hm y hy) hi e]; exact hy
  · exact fun h => ⟨id, h, rfl⟩
theorem ren_idx (hi : id < M64) : ∀ {m : List Nat}, (∀ x ∈ m, x < M64) → (m.map φ).idxOf (φ id) = m.idxOf id
  | [], _ => rfl
  | y :: m, hm => by
    have ih := ren_idx hi (m := m) fun x hx => hm x (List.mem_cons_of_mem _ hx)
    rw [List.map_cons, List.idxOf_cons, List.idxOf_cons, ih]
    have : (φ y == φ id) = (y == id) := by
      by_cases h : y = id
      · rw [h]; simp
      · have h2 : φ y ≠ φ id := fun e => h (P.inj y id (hm y (by simp)) hi e)
        rw [beq_eq_false_iff_ne.2 h, beq_eq_false_iff_ne.2 h2]
    rw [this]
theorem numT_ren (hi : id < M64) (hm : ∀ x ∈ m, x < M64) : numT (m.map φ) (φ id) = ((numT m id).1, (numT m id).2.map φ) := by
  unfold numT
  rw [List.length_map]
  by_cases h : id ∈ m
  · rw [if_pos h, if_pos ((ren_mem P hi hm).2 h), ren_idx P hi hm]
  · rw [if_neg h, if_neg fun h' => h ((ren_mem P hi hm).1 h')]
    split
    · rfl
    · rw [List.map_append]; rfl
theorem cellT_ren (hi : c.id < M64) (hm : ∀ x ∈ m, x < M64) : cellT (m.map φ) (renC φ c) = ((cellT m c).1, (cellT m c).2.map φ) := by
  unfold cellT renC
  dsimp only
  have hz : φ c.id = 0 ↔ c.id = 0 := ⟨fun h => P.inj _ _ hi (by decide) (h.trans P.zero.symm), fun h => by rw [h, P.zero]⟩
  by_cases h1 : c.ref = false
  · rw [if_pos h1, if_pos h1]
  · rw [if_neg h1, if_neg h1]
    by_cases h2 : c.id = 0
    · rw [if_pos h2, if_pos (hz.2 h2)]
    · rw [if_neg h2, if_neg fun h => h2 (hz.1 h), numT_ren P hi hm]
theorem cellsT_ren : ∀ {l : List Cl} {m : List Nat}, Gd m → Okc l → cellsT (m.map φ) (l.map (renC φ)) = ((cellsT m l).1, (cellsT m l).2.map φ)
  | [], m, _, _ => rfl
  | c :: l, m, h, hl => by
    obtain ⟨h1, h2⟩ := cellT_gd h (hl c (by simp))
    have ih := cellsT_ren (l := l) h1 fun y hy => hl y (List.mem_cons_of_mem _ hy)
    rw [List.map_cons]
    simp only [cellsT]
    rw [cellT_ren P (hl c (by simp)) h.lt]
    dsimp only
    rw [ih]
theorem rowT_ren (h : Gd m) (hr : Okc r.loc ∧ Okc r.stk) : rowT (m.map φ) (renR φ r) = ((rowT m r).1, (rowT m r).2.map φ) := by
  unfold rowT renR
  dsimp only
  rw [cellsT_ren P h hr.1]
  dsimp only
  rw [cellsT_ren P (cellsT_gd h hr.1).1 hr.2]
theorem rowsT_ren : ∀ {R : List Rp} {m : List Nat}, Gd m → Okr R → rowsT (m.map φ) (R.map (renR φ)) = ((rowsT m R).1, (rowsT m R).2.map φ)
  | [], m, _, _ => rfl
  | r :: R, m, h, hr => by
    have h0 := hr r (by simp)
    have ih := rowsT_ren (R := R) (rowT_gd h h0).1 fun y hy => hr y (List.mem_cons_of_mem _ hy)
    rw [List.map_cons]
    simp only [rowsT]
    rw [rowT_ren P h ⟨h0.1, h0.2.1⟩]
    dsimp only
    rw [ih]
theorem objT_ren (h : Gd m) (hx : Okc x.cells) : objT (m.map φ) n (renO φ x) = ((objT m n x).1, (objT m n x).2.map φ) := by
  unfold objT renO
  dsimp only
  rw [cellsT_ren P h hx]
theorem objsT_ren (ho : ∀ id, id < M64 → Okc (of_ id).cells) (he : ∀ id, id < M64 → of' (φ id) = renO φ (of_ id)) : ∀ {f i : Nat} {m : List Nat}, f + i ≤ 65536 → Gd m → objsT of' f i (m.map φ) = ((objsT of_ f i m).1, (objsT of_ f i m).2.map φ)
  | 0, i, m, _, _ => rfl
  | f + 1, i, m, hf, h => by
    cases hm : m[i]? with
    | none =>
      have hl : m.length ≤ i := List.getElem?_eq_none_iff.1 hm
      rw [objsT_end hl, objsT_end (by rw [List.length_map]; exact hl)]
    | some id =>
      have hid := h.lt id (List.mem_of_getElem? hm)
      rw [objsT_step hm, objsT_step (id := φ id) (by rw [List.getElem?_map, hm]; rfl), he id hid, objT_ren P h (ho id hid)]
      dsimp only
      rw [objsT_ren ho he (by omega) (objT_gd h (n := i + 1) (by omega) (ho id hid)).1]
theorem seenT_ren (ho : ∀ id, id < M64 → Okc (of_ id).cells) (he : ∀ id, id < M64 → of' (φ id) = renO φ (of_ id)) (hr : Okr R) : (seenT of' (R.map (renR φ))).1 = (seenT of_ R).1 := by
  have h1 := rowsT_ren P Gd.nil hr
  rw [List.map_nil] at h1
  unfold seenT
  dsimp only
  rw [h1]
  dsimp only
  rw [objsT_ren P ho he (by omega) (rowsT_gd Gd.nil hr).1]
/-- own things: renamed, from behind, each ID's first -/
def OwnT (φ : Nat → Nat) (L : List Th) (k : Nat) (O : List Th) : Prop := (∀ id, id < M64 → O.find? (fun t => decide (t.id = φ id)) = if k ≤ L.findIdx (fun t => decide (t.id = id)) then (L[L.findIdx (fun t => decide (t.id = id))]?).map (renT φ) else none) ∧ (∀ t ∈ O, ∃ u ∈ L, t = renT φ u) ∧ O.length + k ≤ L.length
omit P in
theorem idx_at {L : List Th} {id : Nat} {t : Th} (h : L[L.findIdx (fun t => decide (t.id = id))]? = some t) : t.id = id := by
  obtain ⟨h1, h2⟩ := List.getElem?_eq_some_iff.1 h
  have := List.findIdx_getElem (w := h1)
  rw [h2] at this
  simpa using this
omit P in
theorem idx_not {L : List Th} {id k : Nat} {t : Th} (hk : k < L.findIdx (fun t => decide (t.id = id))) (h : L[k]? = some t) : t.id ≠ id := by
  have := List.not_of_lt_findIdx hk
  obtain ⟨h1, h2⟩ := List.getElem?_eq_some_iff.1 h
  rw [h2] at this
  simpa using this
omit P in
theorem OwnT.start (L : List Th) : OwnT φ L L.length [] := ⟨fun id _ => by
  rw [List.find?_nil]
  split
  · rw [List.getElem?_eq_none (by omega)]; rfl
  · rfl, fun t ht => (by cases ht), (by simp)⟩
theorem OwnT.skip {L O : List Th} {k j : Nat} {t t' : Th} (h : OwnT φ L (k + 1) O) (ht : L[k]? = some t) (hj : j < k) (ht' : L[j]? = some t') (e : t'.id = t.id) : OwnT φ L k O := by
  refine ⟨fun id hid => ?_, h.2.1, by have := h.2.2; omega⟩
  rw [h.1 id hid]
  by_cases h1 : L.findIdx (fun t => decide (t.id = id)) = k
  · have h2 := idx_at (L := L) (id := id) (t := t) (by rw [h1]; exact ht)
    exact absurd (e.trans h2) (idx_not (by omega) ht')
  · by_cases h2 : k ≤ L.findIdx (fun t => decide (t.id = id))
    · rw [if_pos h2, if_pos (by omega)]
    · rw [if_neg h2, if_neg (by omega)]
theorem OwnT.take {L O : List Th} {k : Nat} {t : Th} (h : OwnT φ L (k + 1) O) (ht : L[k]? = some t) (hL : ∀ t ∈ L, t.id < M64) (hno : ∀ j t', j < k → L[j]? = some t' → t'.id ≠ t.id) : OwnT φ L k (O ++ [renT φ t]) := by
  refine ⟨fun id hid => ?_, fun u hu => ?_, by have := h.2.2; rw [List.length_append, List.length_singleton]; omega⟩
  · rw [List.find?_append, h.1 id hid]
    have hx : ((renT φ t).id = φ id) ↔ t.id = id := ⟨fun e => P.inj _ _ (hL t (List.mem_of_getElem? ht)) hid e, fun e => by rw [← e]; rfl⟩
    have hi : t.id = id → L.findIdx (fun t => decide (t.id = id)) = k := fun e => by
      obtain ⟨h1, h2⟩ := List.getElem?_eq_some_iff.1 ht
      rw [List.findIdx_eq h1]
      refine ⟨by rw [h2]; simpa using e, fun j hj => ?_⟩
      have := hno j _ hj (List.getElem?_eq_getElem (by omega))
      rw [e] at this
      simpa using this
    by_cases e : t.id = id
    · rw [hi e, if_neg (by omega), if_pos (Nat.le_refl _), ht]
      rw [List.find?_cons_of_pos (by simpa using hx.2 e)]
      rfl
    · rw [List.find?_cons_of_neg (by simpa using fun h => e (hx.1 h)), List.find?_nil, Option.or_none]
      by_cases h2 : k ≤ L.findIdx (fun t => decide (t.id = id))
      · have : L.findIdx (fun t => decide (t.id = id)) ≠ k := fun h3 => e (idx_at (L := L) (by rw [h3]; exact ht))
        rw [if_pos h2, if_pos (by omega)]
      · rw [if_neg h2, if_neg (by omega)]
  · rw [List.mem_append, List.mem_singleton] at hu
    rcases hu with hu | rfl
    · exact h.2.1 u hu
    · exact ⟨t, List.mem_of_getElem? ht, rfl⟩
omit P in
theorem OwnT.find {L O : List Th} (h : OwnT φ L 0 O) {id : Nat} (hid : id < M64) : findT O (φ id) = renO φ (findT L id) := by
  unfold findT
  rw [h.1 id hid, if_pos (Nat.zero_le _), List.find?_eq_getElem?_findIdx]
  cases L[L.findIdx (fun t => decide (t.id = id))]? with
  | none => rfl
  | some t => rfl
omit P in
theorem cellsB_ren (l : List Cl) : cellsB (l.map (renC φ)) = cellsB l := by unfold cellsB; rw [List.map_map]; rfl
theorem okc_ren (l : List Cl) : Okc (l.map (renC φ)) := fun c hc => by
  obtain ⟨d, _, rfl⟩ := List.mem_map.1 hc
  exact P.lt _
theorem dok_ren {L O : List Th} {k : Nat} (D : Dok R L) (h : OwnT φ L k O) : Dok (R.map (renR φ)) O := by
  refine ⟨fun r hr => ?_, ?_, by have := h.2.2; have := D.lm; omega, fun t ht => ?_, fun t ht => ?_⟩
  · obtain ⟨s, hs, rfl⟩ := List.mem_map.1 hr
    exact ⟨okc_ren P _, okc_ren P _, (D.okr s hs).2.2⟩
  · have : rowsB (R.map (renR φ)) = rowsB R := by
      unfold rowsB
      rw [List.map_map]
      congr 1
      refine List.map_congr_left fun r _ => ?_
      show 64 + (cellsB (r.loc.map (renC φ)) + cellsB (r.stk.map (renC φ))) = _
      rw [cellsB_ren, cellsB_ren]; rfl
    rw [this]; exact D.bR
  · obtain ⟨u, hu, rfl⟩ := h.2.1 t ht
    exact okc_ren P _
  · obtain ⟨u, hu, rfl⟩ := h.2.1 t ht
    show 64 + (u.lab.length + cellsB (u.cells.map (renC φ))) ≤ _
    rw [cellsB_ren]
    exact D.ob u hu
end

/-! ### without references -/
def flC (c : Cl) : Cl := ⟨false, 0, c.text⟩
def flR (r : Rp) : Rp := ⟨r.fn, r.pl, r.loc.map flC, r.stk.map flC⟩
theorem cellsT_fl : ∀ (l : List Cl) (m : List Nat), (cellsT m (l.map flC)).2 = m
  | [], m => rfl
  | c :: l, m => by
    rw [List.map_cons]
    simp only [cellsT]
    have : (cellT m (flC c)).2 = m := by unfold cellT flC; rw [if_pos rfl]
    rw [this]
    exact cellsT_fl l m
theorem rowT_fl (r : Rp) (m : List Nat) : (rowT m (flR r)).2 = m := by
  unfold rowT flR
  dsimp only
  rw [cellsT_fl, cellsT_fl]
theorem rowsT_fl : ∀ (R : List Rp) (m : List Nat), (rowsT m (R.map flR)).2 = m
  | [], m => rfl
  | r :: R, m => by
    rw [List.map_cons]
    simp only [rowsT]
    rw [rowT_fl]; exact rowsT_fl R m
theorem rowsT_append : ∀ (R S : List Rp) (m : List Nat), (rowsT m (R ++ S)).1 = (rowsT m R).1 ++ (rowsT (rowsT m R).2 S).1
  | [], S, m => rfl
  | r :: R, S, m => by
    rw [List.cons_append]
    simp only [rowsT]
    rw [rowsT_append R S, List.append_assoc]
theorem seenT_fl (of_ : Nat → Ob) (R : List Rp) : seenT of_ (R.map flR) = ((rowsT [] (R.map flR)).1, []) := by
  unfold seenT
  rw [rowsT_fl, objsT_end (Nat.zero_le _)]
  dsimp only
  rw [List.append_nil]
theorem flat_both (R : List Rp) (k : Nat) : (rowsT [] (R.map flR)).1 = (rowsT [] ((R.take k).map flR)).1 ++ (rowsT [] ((R.drop k).map flR)).1 := by
  conv => lhs; rw [← List.take_append_drop k R, List.map_append, rowsT_append, rowsT_fl]
theorem rowsT_nil_iff (R : List Rp) (m : List Nat) : (rowsT m R).1 = [] ↔ R = [] := by
  cases R with
  | nil => simp [rowsT]
  | cons r R => simp [rowsT, rowT]
theorem dok_fl {R : List Rp} (D : Dok R []) (S : List Rp) (hS : S.Sublist R) : Dok (S.map flR) [] := by
  refine ⟨fun r hr => ?_, ?_, Nat.zero_le _, fun t ht => (by cases ht), fun t ht => (by cases ht)⟩
  · obtain ⟨s, hs, rfl⟩ := List.mem_map.1 hr
    have o : ∀ l : List Cl, Okc (l.map flC) := fun l c hc => by
      obtain ⟨d, _, rfl⟩ := List.mem_map.1 hc
      show 0 < _; decide
    exact ⟨o _, o _, (D.okr s (hS.subset hs)).2.2⟩
  · have h1 : rowsB (S.map flR) = rowsB S := by
      unfold rowsB
      rw [List.map_map]
      congr 1
      refine List.map_congr_left fun r _ => ?_
      have c : ∀ l : List Cl, cellsB (l.map flC) = cellsB l := fun l => by unfold cellsB; rw [List.map_map]; rfl
      show 64 + (cellsB (r.loc.map flC) + cellsB (r.stk.map flC)) = _
      rw [c, c]; rfl
    have h2 : rowsB S ≤ rowsB R := by
      clear h1 D
      induction hS with
      | slnil => exact Nat.le_refl _
      | cons a _ ih => unfold rowsB at *; rw [List.map_cons, List.sum_cons]; omega
      | cons_cons a _ ih => unfold rowsB at *; rw [List.map_cons, List.sum_cons, List.map_cons, List.sum_cons]; omega
    have := D.bR
    omega
end Go.Proofs.YtepmokkhcombmaaDoor.V
