/-
  What bytes are read as a table: plain; what the table tells; its bytes.
-/
import Derived.Test.YtihnjjmbcbfheaaDoorRo2
namespace Go.Proofs.YtihnjjmbcbfheaaDoor.V
open Go Go.RowKit
set_option linter.unusedVariables false
set_option linter.unusedSimpArgs false
set_option linter.unusedSectionVars false
set_option maxRecDepth 100000

structure Pl where
  at_ : Nat
  loc : Nat
  stk : Nat
/-- one place: where the reader stands behind it -/
def plS (bs : List Nat) (s : RS) (nx : Nat) : RS := let a := s.uint bs 299 7; if 300 ≤ nx + a.1 then a.2.fail s.k 7 else a.2
def plL (bs : List Nat) (s : RS) (nx : Nat) : Nat × RS := (plS bs s nx).uint bs 4294967295 7
def plK (bs : List Nat) (s : RS) (nx : Nat) : Nat × RS := (plL bs s nx).2.uint bs 16777215 7
def plA (bs : List Nat) (s : RS) (nx : Nat) : Nat := nx + (s.uint bs 299 7).1
def rowT (bs : List Nat) : Nat → RS → Nat → List Pl × RS
  | 0, s, _ => ([], s)
  | n + 1, s, nx =>
    if s.er ≠ 0 then ([], s) else
    (⟨plA bs s nx, (plL bs s nx).1, (plK bs s nx).1⟩ :: (rowT bs n (plK bs s nx).2 (plA bs s nx + 1)).1, (rowT bs n (plK bs s nx).2 (plA bs s nx + 1)).2)
/-- a function's places -/
def rdT (bs : List Nat) (s : RS) : List Pl × RS := rowT bs (s.uint bs 300 5).1 (s.uint bs 300 5).2 0
def rowsT (bs : List Nat) : Nat → RS → List (List Pl) × RS
  | 0, s => ([], s)
  | n + 1, s => if s.er ≠ 0 then ([], s) else ((rdT bs s).1 :: (rowsT bs n (rdT bs s).2).1, (rowsT bs n (rdT bs s).2).2)
def hdT (bs : List Nat) : Nat × RS := (⟨0, 0, 0⟩ : RS).uint bs 50 5
def alT (bs : List Nat) : List (List Pl) × RS := rowsT bs (hdT bs).1 (hdT bs).2
def endT (bs : List Nat) (s : RS) : RS := if s.k < bs.length then s.fail s.k 10 else s
def loadT (bs : List Nat) : List (List Pl) × RS := ((alT bs).1, endT bs (alT bs).2)
/-! ### faults -/
section
variable {bs : List Nat} {s : RS} {most : Nat} {e at_ : Int} {n nx : Nat}
theorem fail_er (he : e ≠ 0) : (s.fail at_ e).er ≠ 0 := by
  unfold RS.fail
  split
  · exact he
  · rename_i h; intro h0; exact h ⟨h0, he⟩
theorem fail_bad (h : s.er ≠ 0) : s.fail at_ e = s := by unfold RS.fail; rw [if_neg fun h' => h h'.1]
theorem uint_bad (h : s.er ≠ 0) : s.uint bs most e = (0, s) := by unfold RS.uint; rw [if_pos h]
theorem uint_le (he : e ≠ 0) : (s.uint bs most e).1 ≤ most := by
  unfold RS.uint
  split
  · exact Nat.zero_le _
  · split
    · exact Nat.zero_le _
    · exact Nat.zero_le _
    · rename_i n z hp
      split
      · exact Nat.zero_le _
      · rename_i h
        exact Nat.le_of_not_lt fun h1 => h ⟨h1, he⟩
theorem rowT_bad (h : s.er ≠ 0) : rowT bs n s nx = ([], s) := by
  cases n with
  | zero => rfl
  | succ n => unfold rowT; rw [if_pos h]
theorem rdT_bad (h : s.er ≠ 0) : rdT bs s = ([], s) := by unfold rdT; rw [uint_bad h]; rfl
theorem rowsT_bad (h : s.er ≠ 0) : rowsT bs n s = ([], s) := by
  cases n with
  | zero => rfl
  | succ n => unfold rowsT; rw [if_pos h]
theorem rowT_step (h : s.er = 0) : rowT bs (n + 1) s nx = (⟨plA bs s nx, (plL bs s nx).1, (plK bs s nx).1⟩ :: (rowT bs n (plK bs s nx).2 (plA bs s nx + 1)).1, (rowT bs n (plK bs s nx).2 (plA bs s nx + 1)).2) := by
  conv => lhs; unfold rowT
  rw [if_neg (by rw [h]; simp)]
theorem rowsT_step (h : s.er = 0) : rowsT bs (n + 1) s = ((rdT bs s).1 :: (rowsT bs n (rdT bs s).2).1, (rowsT bs n (rdT bs s).2).2) := by
  conv => lhs; unfold rowsT
  rw [if_neg (by rw [h]; simp)]
/-! ### what has been read is what is written -/
theorem uint_ok (h8 : ∀ x ∈ bs, x < 256) (hk : s.k ≤ bs.length) (he : e ≠ 0) (h : (s.uint bs most e).2.er = 0) :
    s.er = 0 ∧ bs.take (s.uint bs most e).2.k = bs.take s.k ++ form (s.uint bs most e).1 ∧ (s.uint bs most e).2.k ≤ bs.length := by
  by_cases h0 : s.er = 0
  · refine ⟨h0, ?_⟩
    unfold RS.uint at h ⊢
    rw [if_neg (by rw [h0]; simp)] at h ⊢
    split at h
    · exact absurd h (fail_er (by decide))
    · exact absurd h (fail_er (by decide))
    · rename_i n z hp
      split at h
      · exact absurd h (fail_er he)
      · rename_i hn
        obtain ⟨m, e1, hz, hl, ht, _⟩ := parse_form _ 0 0 n z (fun x hx => h8 x (List.mem_of_mem_drop hx)) hp
        simp only [hp, if_neg hn]
        rw [Nat.sub_zero] at hl ht
        have : n = m := by omega
        subst this
        refine ⟨?_, by rw [List.length_drop] at hl; omega⟩
        rw [List.take_add, ht]
  · rw [uint_bad h0] at h
    exact absurd h h0
theorem plS_ok (h : (plS bs s nx).er = 0) : (s.uint bs 299 7).2.er = 0 ∧ plS bs s nx = (s.uint bs 299 7).2 ∧ plA bs s nx < 300 := by
  unfold plS at h ⊢
  unfold plA
  dsimp only at h ⊢
  split at h
  · exact absurd h (fail_er (by decide))
  · rename_i h1
    rw [if_neg h1]
    exact ⟨h, rfl, by omega⟩
def encP : Nat → List Pl → List Nat
  | _, [] => []
  | nx, p :: l => form (p.at_ - nx) ++ (form p.loc ++ (form p.stk ++ encP (p.at_ + 1) l))
def encR (l : List Pl) : List Nat := form l.length ++ encP 0 l
def encT (T : List (List Pl)) : List Nat := form T.length ++ T.flatMap encR
/-- places in their order, within their bounds -/
def Okp : Nat → List Pl → Prop
  | _, [] => True
  | nx, p :: l => nx ≤ p.at_ ∧ p.at_ < 300 ∧ p.loc < 4294967296 ∧ p.stk < 4294967296 ∧ Okp (p.at_ + 1) l
theorem rowT_ok (h8 : ∀ x ∈ bs, x < 256) : ∀ (n : Nat) (s : RS) (nx : Nat), s.k ≤ bs.length → (rowT bs n s nx).2.er = 0 →
    s.er = 0 ∧ (rowT bs n s nx).1.length = n ∧ bs.take (rowT bs n s nx).2.k = bs.take s.k ++ encP nx (rowT bs n s nx).1 ∧ (rowT bs n s nx).2.k ≤ bs.length ∧ Okp nx (rowT bs n s nx).1
  | 0, s, nx, hk, h => ⟨h, rfl, by simp [rowT, encP], hk, trivial⟩
  | n + 1, s, nx, hk, h => by
    by_cases h0 : s.er = 0
    · rw [rowT_step h0] at h ⊢
      dsimp only at h ⊢
      have hk1 : ∀ {s' : RS} {m : Nat} {e' : Int}, s'.k ≤ bs.length → e' ≠ 0 → (s'.uint bs m e').2.er = 0 → (s'.uint bs m e').2.k ≤ bs.length := fun hk he h => (uint_ok h8 hk he h).2.2
      have hkK : ∀ {s' : RS} {m : Nat} {e' : Int}, (s'.uint bs m e').2.er = 0 → s'.er = 0 := fun {s' m e'} h => by
        rcases Decidable.em (s'.er = 0) with h0 | h0
        · exact h0
        · rw [uint_bad h0] at h; exact absurd h h0
      have hK : (plK bs s nx).2.er = 0 := by
        rcases Decidable.em ((plK bs s nx).2.er = 0) with h1 | h1
        · exact h1
        · rw [rowT_bad h1] at h; exact absurd h h1
      have hL : (plL bs s nx).2.er = 0 := hkK hK
      have hS : (plS bs s nx).er = 0 := hkK hL
      obtain ⟨hA, eS, hlt⟩ := plS_ok hS
      obtain ⟨_, a1, a2⟩ := uint_ok h8 hk (by decide) hA
      have hkS : (plS bs s nx).k ≤ bs.length := by rw [eS]; exact a2
      obtain ⟨_, b1, b2⟩ := uint_ok h8 hkS (by decide) hL
      obtain ⟨_, c1, c2⟩ := uint_ok h8 (s := (plL bs s nx).2) b2 (by decide) hK
      obtain ⟨_, d1, d2, d3, d4⟩ := rowT_ok h8 n (plK bs s nx).2 (plA bs s nx + 1) c2 h
      have lL : (plL bs s nx).1 ≤ 4294967295 := uint_le (by decide)
      have lK : (plK bs s nx).1 ≤ 16777215 := uint_le (by decide)
      refine ⟨h0, by rw [List.length_cons, d1], ?_, d3, by unfold plA; exact Nat.le_add_right _ _, hlt, by show (plL bs s nx).1 < _; omega, by show (plK bs s nx).1 < _; omega, d4⟩
      rw [d2]
      have e1 : bs.take (plK bs s nx).2.k = bs.take (plL bs s nx).2.k ++ form (plK bs s nx).1 := c1
      have e2 : bs.take (plL bs s nx).2.k = bs.take (plS bs s nx).k ++ form (plL bs s nx).1 := b1
      rw [e1, e2, eS, a1]
      simp only [encP, List.append_assoc]
      have : plA bs s nx - nx = (s.uint bs 299 7).1 := by unfold plA; omega
      rw [this]
    · rw [rowT_bad h0] at h
      exact absurd h h0
theorem rdT_ok (h8 : ∀ x ∈ bs, x < 256) (hk : s.k ≤ bs.length) (h : (rdT bs s).2.er = 0) :
    s.er = 0 ∧ (rdT bs s).1.length ≤ 300 ∧ bs.take (rdT bs s).2.k = bs.take s.k ++ encR (rdT bs s).1 ∧ (rdT bs s).2.k ≤ bs.length ∧ Okp 0 (rdT bs s).1 := by
  unfold rdT at h ⊢
  have h1 : (s.uint bs 300 5).2.er = 0 := by
    rcases Decidable.em ((s.uint bs 300 5).2.er = 0) with h1 | h1
    · exact h1
    · rw [rowT_bad h1] at h; exact absurd h h1
  obtain ⟨h0, a1, a2⟩ := uint_ok h8 hk (by decide) h1
  obtain ⟨_, b1, b2, b3, b4⟩ := rowT_ok h8 _ _ _ a2 h
  refine ⟨h0, by rw [b1]; exact uint_le (by decide), ?_, b3, b4⟩
  rw [b2, a1]
  unfold encR
  rw [b1, List.append_assoc]
theorem rowsT_ok (h8 : ∀ x ∈ bs, x < 256) : ∀ (n : Nat) (s : RS), s.k ≤ bs.length → (rowsT bs n s).2.er = 0 →
    s.er = 0 ∧ (rowsT bs n s).1.length = n ∧ bs.take (rowsT bs n s).2.k = bs.take s.k ++ (rowsT bs n s).1.flatMap encR ∧ (rowsT bs n s).2.k ≤ bs.length ∧ ∀ l ∈ (rowsT bs n s).1, l.length ≤ 300 ∧ Okp 0 l
  | 0, s, hk, h => ⟨h, rfl, by simp [rowsT], hk, fun l hl => by simp [rowsT] at hl⟩
  | n + 1, s, hk, h => by
    by_cases h0 : s.er = 0
    · rw [rowsT_step h0] at h ⊢
      dsimp only at h ⊢
      have h1 : (rdT bs s).2.er = 0 := by
        rcases Decidable.em ((rdT bs s).2.er = 0) with h1 | h1
        · exact h1
        · rw [rowsT_bad h1] at h; exact absurd h h1
      obtain ⟨_, a1, a2, a3, a4⟩ := rdT_ok h8 hk h1
      obtain ⟨_, b1, b2, b3, b4⟩ := rowsT_ok h8 n _ a3 h
      refine ⟨h0, by rw [List.length_cons, b1], ?_, b3, fun l hl => ?_⟩
      · rw [b2, a2, List.flatMap_cons, List.append_assoc]
      · rcases List.mem_cons.1 hl with rfl | hl
        · exact ⟨a1, a4⟩
        · exact b4 l hl
    · rw [rowsT_bad h0] at h
      exact absurd h h0
theorem loadT_ok (h8 : ∀ x ∈ bs, x < 256) (h : (loadT bs).2.er = 0) : (alT bs).2.er = 0 ∧ encT (loadT bs).1 = bs ∧ (loadT bs).1.length ≤ 50 ∧ ∀ l ∈ (loadT bs).1, l.length ≤ 300 ∧ Okp 0 l := by
  have h1 : (endT bs (alT bs).2).er = 0 := h
  unfold endT at h1
  split at h1
  · exact absurd h1 (fail_er (by decide))
  · rename_i hk
    have h2 : (rowsT bs (hdT bs).1 (hdT bs).2).2.er = 0 := h1
    have h3 : (hdT bs).2.er = 0 := by
      rcases Decidable.em ((hdT bs).2.er = 0) with h3 | h3
      · exact h3
      · rw [rowsT_bad h3] at h2; exact absurd h2 h3
    obtain ⟨_, a1, a2⟩ := uint_ok (s := ⟨0, 0, 0⟩) h8 (Nat.zero_le _) (by decide) h3
    have hh : (⟨0, 0, 0⟩ : RS).uint bs 50 5 = hdT bs := rfl
    rw [hh] at a1 a2
    obtain ⟨_, b1, b2, b3, b4⟩ := rowsT_ok h8 _ _ a2 h2
    have hlen : (hdT bs).1 ≤ 50 := uint_le (by decide)
    refine ⟨h1, ?_, by show (rowsT bs (hdT bs).1 (hdT bs).2).1.length ≤ 50; rw [b1]; exact hlen, b4⟩
    show form (rowsT bs (hdT bs).1 (hdT bs).2).1.length ++ (rowsT bs (hdT bs).1 (hdT bs).2).1.flatMap encR = bs
    rw [b1]
    have e1 : bs.take (hdT bs).2.k = bs.take 0 ++ form (hdT bs).1 := a1
    rw [e1, List.take_zero, List.nil_append] at b2
    rw [← b2]
    refine List.take_of_length_le ?_
    have : (alT bs).2 = (rowsT bs (hdT bs).1 (hdT bs).2).2 := rfl
    rw [← this]; omega
end
/-! ### what a table tells -/
def putF (f : FS) (fn : Int) (p : Pl) : FS := fun x y => if x = fn ∧ y = (p.at_ : Nat) then some (p.loc, p.stk) else f x y
def addF (f : FS) (fn : Int) (l : List Pl) : FS := l.foldl (fun f p => putF f fn p) f
def tblF : Nat → List (List Pl) → FS → FS
  | _, [], f => f
  | i, r :: T, f => tblF (i + 1) T (addF f (i : Nat) r)
def f0 : FS := fun _ _ => none
def rowAt (T : List (List Pl)) (fn : Int) : List Pl := if 0 ≤ fn then (T[fn.toNat]?).getD [] else []
def atT (T : List (List Pl)) (fn at_ : Int) : Option (Nat × Nat) := ((rowAt T fn).find? fun p => decide ((p.at_ : Int) = at_)).map fun p => (p.loc, p.stk)
def sitesT (T : List (List Pl)) (fn : Int) : List Int := (rowAt T fn).map fun p => ((p.at_ : Nat) : Int)
theorem okp_ge : ∀ {l : List Pl} {nx : Nat}, Okp nx l → ∀ p ∈ l, nx ≤ p.at_ ∧ p.at_ < 300 ∧ p.loc < 4294967296 ∧ p.stk < 4294967296
  | [], _, _, p, hp => by cases hp
  | q :: l, nx, ⟨h1, h2, h3, h4, h5⟩, p, hp => by
    rcases List.mem_cons.1 hp with rfl | hp
    · exact ⟨h1, h2, h3, h4⟩
    · have := okp_ge h5 p hp
      exact ⟨by omega, this.2.1, this.2.2.1, this.2.2.2⟩
theorem okp_sorted : ∀ {l : List Pl} {nx : Nat}, Okp nx l → (l.map fun p => ((p.at_ : Nat) : Int)).Pairwise (· < ·)
  | [], _, _ => List.Pairwise.nil
  | q :: l, nx, ⟨h1, h2, h3, h4, h5⟩ => by
    rw [List.map_cons, List.pairwise_cons]
    refine ⟨fun y hy => ?_, okp_sorted h5⟩
    obtain ⟨p, hp, rfl⟩ := List.mem_map.1 hy
    have := okp_ge h5 p hp
    omega
theorem addF_other {fn x : Int} (h : x ≠ fn) (y : Int) : ∀ (l : List Pl) (f : FS), addF f fn l x y = f x y
  | [], f => rfl
  | p :: l, f => by
    show addF (putF f fn p) fn l x y = _
    rw [addF_other h y l]
    unfold putF
    rw [if_neg fun h' => h h'.1]
theorem addF_own {fn : Int} (y : Int) : ∀ (l : List Pl) (f : FS) (nx : Nat), Okp nx l → addF f fn l fn y = match l.find? (fun p => decide ((p.at_ : Int) = y)) with
    | some p => some (p.loc, p.stk)
    | none => f fn y
  | [], f, nx, _ => rfl
  | p :: l, f, nx, ⟨h1, h2, h3, h4, h5⟩ => by
    show addF (putF f fn p) fn l fn y = _
    rw [addF_own y l _ _ h5]
    by_cases hy : (p.at_ : Int) = y
    · have hn : l.find? (fun p => decide ((p.at_ : Int) = y)) = none := by
        rw [List.find?_eq_none]
        intro q hq
        have := okp_ge h5 q hq
        rw [decide_eq_true_eq]
        omega
      rw [hn, List.find?_cons_of_pos (by simpa using hy)]
      dsimp only
      unfold putF
      rw [if_pos ⟨rfl, hy.symm⟩]
    · rw [List.find?_cons_of_neg (by simpa using hy)]
      cases l.find? (fun p => decide ((p.at_ : Int) = y)) with
      | some q => rfl
      | none =>
        dsimp only
        unfold putF
        rw [if_neg fun h => hy h.2.symm]
theorem tblF_at (y : Int) : ∀ (T : List (List Pl)) (i : Nat) (f : FS) (x : Int), (∀ l ∈ T, Okp 0 l) → (∀ x y : Int, (i : Int) ≤ x → f x y = none) →
    tblF i T f x y = if (i : Int) ≤ x then (((T[(x - i).toNat]?).getD []).find? fun p => decide ((p.at_ : Int) = y)).map (fun p => (p.loc, p.stk)) else f x y
  | [], i, f, x, _, h => by
    show f x y = _
    split
    · rename_i hi; rw [h x y hi]; simp
    · rfl
  | r :: T, i, f, x, hO, h => by
    show tblF (i + 1) T (addF f (i : Nat) r) x y = _
    rw [tblF_at y T (i + 1) _ x (fun l hl => hO l (List.mem_cons_of_mem _ hl)) (fun x' y' hx' => by rw [addF_other (by omega)]; exact h x' y' (by omega))]
    by_cases h1 : x = (i : Int)
    · subst h1
      rw [if_neg (by omega), if_pos (Int.le_refl _), addF_own y r f 0 (hO r (by simp)), h _ y (Int.le_refl _)]
      simp
      cases r.find? (fun p => decide ((p.at_ : Int) = y)) <;> rfl
    · by_cases h2 : (i : Int) ≤ x
      · rw [if_pos (by omega), if_pos h2]
        have : (x - (i : Nat)).toNat = (x - ((i + 1 : Nat) : Int)).toNat + 1 := by omega
        rw [this, List.getElem?_cons_succ]
      · rw [if_neg (by omega), if_neg h2, addF_other h1]
theorem tblF_is {T : List (List Pl)} (hO : ∀ l ∈ T, Okp 0 l) (x y : Int) : tblF 0 T f0 x y = atT T x y := by
  rw [tblF_at y T 0 f0 x hO fun _ _ _ => rfl]
  unfold atT rowAt
  by_cases h : 0 ≤ x
  · rw [if_pos (by omega), if_pos h]
    simp
  · rw [if_neg (by omega), if_neg h]; rfl
theorem rowAt_ok {T : List (List Pl)} (hO : ∀ l ∈ T, l.length ≤ 300 ∧ Okp 0 l) (fn : Int) : (rowAt T fn).length ≤ 300 ∧ Okp 0 (rowAt T fn) := by
  unfold rowAt
  split
  · cases h : T[fn.toNat]? with
    | none => exact ⟨Nat.zero_le _, trivial⟩
    | some l => exact hO l (List.mem_of_getElem? h)
  · exact ⟨Nat.zero_le _, trivial⟩
theorem sites_mem {T : List (List Pl)} (fn y : Int) : y ∈ sitesT T fn ↔ atT T fn y ≠ none := by
  unfold sitesT atT
  rw [List.mem_map, ne_eq, Option.map_eq_none_iff, List.find?_eq_none]
  constructor
  · rintro ⟨p, hp, e⟩ h
    exact h p hp (by simpa using e)
  · intro h
    refine Classical.byContradiction fun hn => h fun p hp e => hn ⟨p, hp, by simpa using e⟩
theorem tblF_append (r : List Pl) : ∀ (T : List (List Pl)) (i : Nat) (f : FS), tblF i (T ++ [r]) f = addF (tblF i T f) ((i + T.length : Nat) : Int) r
  | [], i, f => by simp [tblF]
  | q :: T, i, f => by
    show tblF (i + 1) (T ++ [r]) _ = addF (tblF (i + 1) T _) _ r
    rw [tblF_append r T]
    congr 2
    rw [List.length_cons]; omega
end Go.Proofs.YtihnjjmbcbfheaaDoor.V
