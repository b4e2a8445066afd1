/-
  The document's Alike: pairs told apart, marked again and again.
-/
import Derived.Test.YtiljdcopkgmcbaaTy7
namespace Go.Proofs.Ytiljdcopkgmcbaa.V
open Go Go.RowKit
set_option linter.unusedVariables false
set_option linter.unusedSimpArgs false
set_option maxRecDepth 100000

def bl (l : List Bool) : List Value := l.map Value.bool
@[simp] theorem bl_length (l : List Bool) : (bl l).length = l.length := by simp [bl]
theorem bl_set (l : List Bool) (i : Nat) (b : Bool) : (bl l).set i (.bool b) = bl (l.set i b) := by simp [bl]
def slV (s : Sl) : Value := .slice s.a s.n s.c
def kn (K : List (List Bool)) (i j : Nat) : Bool := (K.getD i []).getD j false
def knSet (K : List (List Bool)) (i j : Nat) (b : Bool) : List (List Bool) := K.set i ((K.getD i []).set j b)
/-- rows of truths, each of its own; m of them laid -/
structure Mat (w : World) (B g n m : Nat) (rows : List Sl) (K : List (List Bool)) : Prop where
  hd : Blk w g 68 (rows.map slV)
  base : B ≤ g
  len : rows.length = n
  klen : K.length = n
  row : ∀ (i : Nat) (s : Sl), i < m → rows[i]? = some s → Own w B 4 1 s (bl (K.getD i [])) ∧ (K.getD i []).length = n ∧ s.n = n
  apart : rows.Pairwise Apart
theorem kn_set {K : List (List Bool)} {i j : Nat} (hi : i < K.length) (hj : j < (K.getD i []).length) (b : Bool) (i' j' : Nat) : kn (knSet K i j b) i' j' = if i = i' ∧ j = j' then b else kn K i' j' := by
  unfold kn knSet
  simp only [List.getD_eq_getElem?_getD, List.getElem?_set] at *
  by_cases e : i = i'
  · subst e
    simp only [if_true, hi, Option.getD_some, List.getElem?_set, true_and]
    by_cases e' : j = j'
    · subst e'; simp [hj]
    · simp [e']
  · simp [e]
section
variable {w w' : World} {B g n m : Nat} {rows : List Sl} {K : List (List Bool)} {S : Nat → Prop}
theorem Mat.upd (h : Mat w B g n m rows K) (u : Upd S w w') (hS : ∀ k, S k → k < B ∨ w.heap.size ≤ k) : Mat w' B g n m rows K :=
  ⟨h.hd.upd u fun hk => by have := h.base; have := h.hd.lt; rcases hS _ hk with h' | h' <;> omega, h.base, h.len, h.klen, fun i s hi hs => ⟨(h.row i s hi hs).1.upd u (own_off (h.row i s hi hs).1 hS), (h.row i s hi hs).2⟩, h.apart⟩
theorem Mat.ext (h : Mat w B g n m rows K) (u : Ext w w') : Mat w' B g n m rows K := h.upd u fun _ => False.elim
/-- a row: its address, its truths -/
theorem Mat.at_ (h : Mat w B g n m rows K) {i : Nat} (hi : i < m) (hm : m ≤ n) : ∃ (s : Sl), rows[i]? = some s ∧ w.cell? ⟨g, i, none⟩ = some (.slice s.a s.n s.c) ∧ s.n = n ∧
    ∀ j, j < n → ∃ p, s.a = some p ∧ w.cell? (p.add j) = some (.bool (kn K i j)) := by
  have hl := h.len
  obtain ⟨s, hs⟩ : ∃ s, rows[i]? = some s := ⟨_, List.getElem?_eq_getElem (by omega)⟩
  obtain ⟨ho, hk, hn⟩ := h.row i s hi hs
  refine ⟨s, hs, ?_, hn, fun j hj => ?_⟩
  · rw [h.hd.cell, List.getElem?_map, hs]; rfl
  · obtain ⟨p, v, hp, hv, hc⟩ := ho.rd.at1 j (by omega)
    refine ⟨p, hp, ?_⟩
    rw [hc]
    rw [bl, List.getElem?_map, List.getElem?_eq_getElem (by omega)] at hv
    injection hv with hv
    rw [← hv]
    have e : kn K i j = (K.getD i [])[j]'(by omega) := by
      unfold kn
      rw [List.getD_eq_getElem?_getD (l := K.getD i []), List.getElem?_eq_getElem (by omega)]; rfl
    rw [e]
theorem Mat.set (h : Mat w B g n n rows K) {i j : Nat} (hi : i < n) (hj : j < n) {s : Sl} {p : Addr} (hs : rows[i]? = some s) (hp : s.a = some p) {b : Bool} (hw : SetW w (p.add j) [.bool b] w') :
    Mat w' B g n n rows (knSet K i j b) ∧ Upd (fun k => k = p.block) w w' := by
  obtain ⟨ho, hk, hn⟩ := h.row i s hi hs
  obtain ⟨ho', hu⟩ := ho.setAt hp (by omega) hw
  have hbg : p.block ≠ g := own_blk_ne ho h.hd (by decide) p hp
  have hkl := h.klen
  refine ⟨⟨h.hd.upd hu (fun e => hbg e.symm), h.base, h.len, by simp [knSet, hkl], fun i' s' hi' hs' => ?_, h.apart⟩, hu⟩
  by_cases e : i = i'
  · subst e
    rw [hs] at hs'; injection hs' with hs'; subst hs'
    have hg : (knSet K i j b).getD i [] = (K.getD i []).set j b := by
      simp [knSet, List.getD_eq_getElem?_getD, List.getElem?_set, hkl, hi]
    rw [hg, ← bl_set]
    exact ⟨ho', by rw [List.length_set]; exact hk, hn⟩
  · have hg : (knSet K i j b).getD i' [] = K.getD i' [] := by
      simp [knSet, List.getD_eq_getElem?_getD, List.getElem?_set, e]
    rw [hg]
    obtain ⟨ho2, hk2⟩ := h.row i' s' hi' hs'
    refine ⟨ho2.upd hu fun q hq he => ?_, hk2⟩
    have hap : Apart s s' ∨ Apart s' s := by
      have hpw := List.pairwise_iff_getElem.1 h.apart
      have l1 := (List.getElem?_eq_some_iff.1 hs)
      have l2 := (List.getElem?_eq_some_iff.1 hs')
      obtain ⟨l1, e1⟩ := l1
      obtain ⟨l2, e2⟩ := l2
      rcases Nat.lt_or_gt_of_ne e with hlt | hlt
      · left; have := hpw i i' l1 l2 hlt; rw [e1, e2] at this; exact this
      · right; have := hpw i' i l2 l1 hlt; rw [e1, e2] at this; exact this
    rcases hap with hap | hap
    · exact hap p q hp hq he.symm
    · exact hap q p hq hp he
end
/-- two types told apart at once, or by what is known by now -/
def ApartP (A : List Ty) (K : List (List Bool)) (i k : Nat) : Prop := ∃ x y, A[i]? = some x ∧ A[k]? = some y ∧
  (x.kind ≠ y.kind ∨ x.parts.length ≠ y.parts.length ∨ (∃ (j : Nat) (p q : Int), x.parts[j]? = some p ∧ y.parts[j]? = some q ∧ kn K p.toNat q.toNat = true) ∨ (2 < x.kind ∧ kn K x.of.toNat y.of.toNat = true))
section
variable {w : World} {B g n : Nat} {rows : List Sl} {K : List (List Bool)} {l : Sl} {T : List Tp}
theorem apart_spec (h : Tys w l T) (hr : Right (T.map (·.1))) (hM : Mat w B g n n rows K) (hn : n = T.length + 2) (c : Nat) {a b : Nat} (ha : a < n) (hb : b < n) :
    Calls Try.prog 39 #[.slice l.a l.n l.c, .slice (some ⟨g, 0, none⟩) n c, .int .i64 (a : Nat), .int .i64 (b : Nat)] w fun e w' =>
      ∃ r : Bool, e = .returned (.bool r) ∧ (r = true ↔ ApartP (allT (T.map (·.1))) K a b) ∧ Qt w w' := by
  have hL : (T.map (·.1)).length = T.length := List.length_map ..
  have hal := allT_len (T.map (·.1))
  have hfew := hr.few
  obtain ⟨x, hx⟩ : ∃ x, (allT (T.map (·.1)))[a]? = some x := ⟨_, List.getElem?_eq_getElem (by omega)⟩
  obtain ⟨y, hy⟩ : ∃ y, (allT (T.map (·.1)))[b]? = some y := ⟨_, List.getElem?_eq_getElem (by omega)⟩
  have hxa := all_at hr (n := (a : Int)) (by omega) (by rw [Int.toNat_natCast]; exact hx)
  have hyb := all_at hr (n := (b : Int)) (by omega) (by rw [Int.toNat_natCast]; exact hy)
  have okx := hr.all x (List.mem_of_getElem? hx)
  have oky := hr.all y (List.mem_of_getElem? hy)
  have k1 := rkind_spec h (by omega) (a : Int) (by omega)
  have k2 := rkind_spec h (by omega) (b : Int) (by omega)
  have p1 := rparts_spec h (by omega) (a : Int) (by omega)
  have p2 := rparts_spec h (by omega) (b : Int) (by omega)
  have o1 := fun w' (u : Ext w w') => rof_spec (h.ext u) (by omega) (a : Int) (by omega)
  have o2 := fun w' (u : Ext w w') => rof_spec (h.ext u) (by omega) (b : Int) (by omega)
  rw [hxa.2.1] at k1
  rw [hyb.2.1] at k2
  rw [hxa.2.2.1] at p1
  rw [hyb.2.2.1] at p2
  simp only [hxa.2.2.2] at o1
  simp only [hyb.2.2.2] at o2
  have apP : ∀ r : Bool, (r = true ↔ (x.kind ≠ y.kind ∨ x.parts.length ≠ y.parts.length ∨ (∃ (j : Nat) (p q : Int), x.parts[j]? = some p ∧ y.parts[j]? = some q ∧ kn K p.toNat q.toNat = true) ∨ (2 < x.kind ∧ kn K x.of.toNat y.of.toNat = true))) →
      (r = true ↔ ApartP (allT (T.map (·.1))) K a b) := fun r hr => by
    rw [hr]
    exact ⟨fun h => ⟨x, y, hx, hy, h⟩, fun ⟨x', y', hx', hy', h⟩ => by rw [hx] at hx'; rw [hy] at hy'; injection hx' with hx'; injection hy' with hy'; subst hx'; subst hy'; exact h⟩
  refine vc_39 l ⟨some ⟨g, 0, none⟩, n, c⟩ _ _ _ _ ?_
  simp only [eq_self, false_or, or_false, true_and, and_true, decide_eq_true_eq, decide_eq_false_iff_not, gd_st, gd_sf, exists_eq_left', exists_eq_left, Option.some.injEq, Sl.eta, Nat.reduceLeDiff, Int.reduceLE, Int.reduceLT, Int.reduceEq, Int.reduceNe, Nat.reduceMul, Nat.reduceAdd, Nat.reduceSub, Int.toNat_natCast, beq_iff_eq, bne_iff_ne, beq_eq_false_iff_ne, bne_eq_false_iff_eq, pick_and, pick_or, Bool.and_eq_true, Bool.or_eq_true, Bool.and_eq_false_iff, Bool.or_eq_false_iff, ne_eq, not_false_eq_true, Bool.not_eq_true', Bool.not_eq_false', reduceCtorEq, Nat.le_refl, Nat.zero_mul, Nat.mul_one, Nat.zero_add, Int.reduceToNat, ones, one, add_mk, Decidable.not_not, cond_true, cond_false, true_implies, false_implies, implies_true, Bool.not_true, Bool.not_false]
  refine ⟨k1.mono ?_⟩
  rintro e w1 ⟨rfl, rfl⟩
  refine ⟨_, rfl, ⟨k2.mono ?_⟩⟩
  rintro e w2 ⟨rfl, rfl⟩
  refine ⟨_, rfl, ⟨p1.mono ?_⟩⟩
  rintro e w3 ⟨s1, rfl, rd1, rfl⟩
  refine ⟨s1, rfl, ⟨p2.mono ?_⟩⟩
  rintro e w4 ⟨s2, rfl, rd2, rfl⟩
  have l1 := rd1.leni
  have l2 := rd2.leni
  have fx := okx.few
  refine ⟨s2, rfl, fun hk => ⟨fun hne => ⟨true, rfl, apP _ ⟨fun _ => .inr (.inl (by omega)), fun _ => rfl⟩, Qt.refl _⟩, fun heq => ?_⟩, fun hk => ⟨true, rfl, apP _ ⟨fun _ => .inl hk, fun _ => rfl⟩, Qt.refl _⟩⟩
  refine ⟨fun j w' => 0 ≤ j ∧ j ≤ x.parts.length ∧ Qt w4 w' ∧ ∀ (i : Nat) (p q : Int), i < j.toNat → x.parts[i]? = some p → y.parts[i]? = some q → kn K p.toNat q.toNat = false, fun j _ => (x.parts.length - j).toNat, ⟨by omega, by omega, Qt.refl _, fun i p q hi => by simp at hi⟩, ?_⟩
  rintro _ j w5 ⟨j0, j1, q5, hj⟩
  have M5 := hM.ext q5.ext
  refine ⟨fun hlt => ?_, fun hge => ?_⟩
  · obtain ⟨pa, u, hpa, hu, hcu⟩ := (rd1.ext q5.ext).intl j.toNat (by omega)
    obtain ⟨pb, v, hpb, hv, hcv⟩ := (rd2.ext q5.ext).intl j.toNat (by omega)
    rw [Nat.mul_one] at hcu hcv
    have ru := okx.parts u (List.mem_of_getElem? hu)
    have rv := oky.parts v (List.mem_of_getElem? hv)
    obtain ⟨s, hs, hcs, hsn, hcell⟩ := M5.at_ (i := u.toNat) (by omega) (Nat.le_refl _)
    obtain ⟨pr, hpr, hcr⟩ := hcell v.toNat (by omega)
    (repeat' (first | refine ⟨_, by assumption, ?_⟩ | refine ⟨by omega, ?_⟩ | refine ⟨by assumption, ?_⟩ | fail))
    intro w6 q6
    refine ⟨fun hb => ⟨true, rfl, apP _ ⟨fun _ => .inr (.inr (.inl ⟨_, u, v, hu, hv, hb⟩)), fun _ => rfl⟩, q5.trans q6⟩, fun hb => ⟨⟨?_, ?_, q5.trans q6, ?_⟩, ?_⟩⟩
    · (first | (rw [wrap_i64 (by omega) (by omega)]; omega) | (dsimp only; rw [wrap_i64 (by omega) (by omega)]; omega) | (dsimp only; omega))
    · (first | (rw [wrap_i64 (by omega) (by omega)]; omega) | (dsimp only; rw [wrap_i64 (by omega) (by omega)]; omega) | (dsimp only; omega))
    · rw [wrap_i64 (by omega) (by omega)]
      intro i p' q' hi hp' hq'
      by_cases e : i = j.toNat
      · subst e; rw [hu] at hp'; rw [hv] at hq'; injection hp' with hp'; injection hq' with hq'; subst hp'; subst hq'; exact hb
      · exact hj i p' q' (by omega) hp' hq'
    · (first | (rw [wrap_i64 (by omega) (by omega)]; omega) | (dsimp only; rw [wrap_i64 (by omega) (by omega)]; omega) | (dsimp only; omega))
  · have hno : ¬ ∃ (j : Nat) (p q : Int), x.parts[j]? = some p ∧ y.parts[j]? = some q ∧ kn K p.toNat q.toNat = true := by
      rintro ⟨i, p', q', hp', hq', hh⟩
      have := hj i p' q' (by have := (List.getElem?_eq_some_iff.1 hp').1; omega) hp' hq'
      rw [this] at hh; cases hh
    refine ⟨(o1 w5 q5.ext).mono ?_⟩
    rintro e w6 ⟨rfl, rfl⟩
    refine ⟨_, rfl, ⟨(o2 w6 q5.ext).mono ?_⟩⟩
    rintro e w7 ⟨rfl, rfl⟩
    have o1 := okx.of
    have o2 := oky.of
    by_cases h2 : x.kind ≤ 2
    · rw [if_pos h2]
      refine ⟨_, rfl, fun h => absurd h (by decide), fun _ => ⟨false, rfl, apP _ ⟨fun h => (by cases h), fun h => ?_⟩, q5⟩⟩
      rcases h with h | h | h | h
      · exact (h hk).elim
      · omega
      · exact (hno h).elim
      · omega
    · rw [if_neg h2, if_neg (by omega)]
      obtain ⟨s, hs, hcs, hsn, hcell⟩ := M5.at_ (i := x.of.toNat) (by omega) (Nat.le_refl _)
      obtain ⟨pr, hpr, hcr⟩ := hcell y.of.toNat (by omega)
      refine ⟨_, rfl, fun h0 => ?_, fun h0 => by omega⟩
      (repeat' (first | refine ⟨_, by assumption, ?_⟩ | refine ⟨by omega, ?_⟩ | refine ⟨by assumption, ?_⟩ | fail))
      refine ⟨_, rfl, apP _ ⟨fun h => .inr (.inr (.inr ⟨by omega, h⟩)), fun h => ?_⟩, q5⟩
      rcases h with h | h | h | h
      · exact (h hk).elim
      · omega
      · exact (hno h).elim
      · exact h.2
end
/-! ### the measure: pairs that are not told apart -/
def rdM (w : World) (g i j : Nat) : Bool :=
  match w.cell? ⟨g, i, none⟩ with
  | some (.slice (some p) _ _) => match w.cell? (p.add j) with
    | some (.bool b) => b
    | _ => true
  | _ => true
def cnt1 (f : Nat → Bool) : Nat → Nat
  | 0 => 0
  | n + 1 => cnt1 f n + (if f n = true then 0 else 1)
def cnt2 (f : Nat → Nat → Bool) (n : Nat) : Nat → Nat
  | 0 => 0
  | m + 1 => cnt2 f n m + cnt1 (f m) n
theorem cnt1_le {f f' : Nat → Bool} : ∀ n, (∀ i, i < n → f i = true → f' i = true) → cnt1 f' n ≤ cnt1 f n
  | 0, _ => Nat.le_refl _
  | n + 1, h => by
    have := cnt1_le n fun i hi => h i (by omega)
    have h0 := h n (by omega)
    simp only [cnt1]
    by_cases hf : f n = true
    · rw [if_pos hf, if_pos (h0 hf)]; omega
    · rw [if_neg hf]; split <;> omega
theorem cnt1_lt {f f' : Nat → Bool} : ∀ n, (∀ i, i < n → f i = true → f' i = true) → (∃ i, i < n ∧ f i = false ∧ f' i = true) → cnt1 f' n < cnt1 f n
  | 0, _, h => by obtain ⟨i, h, _⟩ := h; omega
  | n + 1, h, ⟨i, hi, h1, h2⟩ => by
    have h0 := h n (by omega)
    have hle := cnt1_le n fun i hi => h i (by omega)
    simp only [cnt1]
    by_cases e : i = n
    · subst e
      rw [if_pos h2, if_neg (by rw [h1]; decide)]; omega
    · have := cnt1_lt n (fun i hi => h i (by omega)) ⟨i, by omega, h1, h2⟩
      by_cases hf : f n = true
      · rw [if_pos hf, if_pos (h0 hf)]; omega
      · rw [if_neg hf]; split <;> omega
theorem cnt2_le {f f' : Nat → Nat → Bool} (n : Nat) : ∀ m, (∀ i j, i < m → j < n → f i j = true → f' i j = true) → cnt2 f' n m ≤ cnt2 f n m
  | 0, _ => Nat.le_refl _
  | m + 1, h => by
    have := cnt2_le n m fun i j hi hj => h i j (by omega) hj
    have := cnt1_le (f := f m) (f' := f' m) n fun j hj => h m j (by omega) hj
    simp only [cnt2]; omega
theorem cnt2_lt {f f' : Nat → Nat → Bool} (n : Nat) : ∀ m, (∀ i j, i < m → j < n → f i j = true → f' i j = true) → (∃ i j, i < m ∧ j < n ∧ f i j = false ∧ f' i j = true) → cnt2 f' n m < cnt2 f n m
  | 0, _, h => by obtain ⟨i, _, h, _⟩ := h; omega
  | m + 1, h, ⟨i, j, hi, hj, h1, h2⟩ => by
    have hle := cnt2_le n m fun i j hi hj => h i j (by omega) hj
    have hle1 := cnt1_le (f := f m) (f' := f' m) n fun j hj => h m j (by omega) hj
    simp only [cnt2]
    by_cases e : i = m
    · subst e
      have := cnt1_lt (f := f i) (f' := f' i) n (fun j hj => h i j (by omega) hj) ⟨j, hj, h1, h2⟩
      omega
    · have := cnt2_lt n m (fun i j hi hj => h i j (by omega) hj) ⟨i, j, by omega, hj, h1, h2⟩
      omega
theorem Mat.rd {w : World} {B g n : Nat} {rows : List Sl} {K : List (List Bool)} (h : Mat w B g n n rows K) {i j : Nat} (hi : i < n) (hj : j < n) : rdM w g i j = kn K i j := by
  obtain ⟨s, _, hc, _, hat⟩ := h.at_ hi (Nat.le_refl _)
  obtain ⟨p, hp, hcell⟩ := hat j hj
  unfold rdM
  rw [hc, hp]
  simp only [hcell]
theorem Mat.cnt {w : World} {B g n : Nat} {rows : List Sl} {K : List (List Bool)} (h : Mat w B g n n rows K) : cnt2 (rdM w g) n n = cnt2 (kn K) n n := by
  have h1 := cnt2_le (f := rdM w g) (f' := kn K) n n fun i j hi hj => by rw [h.rd hi hj]; exact id
  have h2 := cnt2_le (f := kn K) (f' := rdM w g) n n fun i j hi hj => by rw [h.rd hi hj]; exact id
  omega
/-- what is marked is told apart -/
def Snd (A : List Ty) (K : List (List Bool)) (n : Nat) : Prop := ∀ i j, i < n → j < n → kn K i j = true → ¬ Alk A i j
theorem Snd.apart {A : List Ty} (ok : ∀ x ∈ A, AllOk A x) {K : List (List Bool)} {n : Nat} (hn : n = A.length) (h : Snd A K n) {i j : Nat} (ha : ApartP A K i j) : ¬ Alk A i j := by
  intro hl
  obtain ⟨x, y, hx, hy, hc⟩ := ha
  obtain ⟨x', y', hx', hy', h1, h2, h3, h4⟩ := Bis.alk i j hl
  rw [hx] at hx'; rw [hy] at hy'; injection hx' with hx'; injection hy' with hy'; subst hx'; subst hy'
  have ox := ok x (List.mem_of_getElem? hx)
  have oy := ok y (List.mem_of_getElem? hy)
  rcases hc with hc | hc | ⟨k, p, q, hp, hq, hc⟩ | ⟨hk, hc⟩
  · exact hc h1
  · exact hc h2
  · have p1 := ox.parts p (List.mem_of_getElem? hp)
    have q1 := oy.parts q (List.mem_of_getElem? hq)
    exact h _ _ (by omega) (by omega) hc (h3 k p q hp hq)
  · have o1 := ox.of
    have o2 := oy.of
    exact h _ _ (by omega) (by omega) hc (h4 hk)
/-- nothing more to be marked: what is not marked means the same -/
theorem Snd.done {A : List Ty} (ok : ∀ x ∈ A, AllOk A x) {K : List (List Bool)} {n : Nat} (hn : n = A.length) (h : Snd A K n) (hno : ∀ i j, i < n → j < n → kn K i j = false → ¬ ApartP A K i j) {i j : Nat} (hi : i < n) (hj : j < n) :
    kn K i j = false ↔ Alk A i j := by
  constructor
  · intro hf
    refine ⟨fun a b => a < n ∧ b < n ∧ kn K a b = false, ?_, hi, hj, hf⟩
    rintro a b ⟨ha, hb, hab⟩
    obtain ⟨x, hx⟩ : ∃ x, A[a]? = some x := ⟨_, List.getElem?_eq_getElem (by omega)⟩
    obtain ⟨y, hy⟩ : ∃ y, A[b]? = some y := ⟨_, List.getElem?_eq_getElem (by omega)⟩
    have ox := ok x (List.mem_of_getElem? hx)
    have oy := ok y (List.mem_of_getElem? hy)
    have hna := hno a b ha hb hab
    have fls : ∀ {c : Bool}, ¬ c = true → c = false := fun {c} h => by cases c <;> simp_all
    refine ⟨x, y, hx, hy, Classical.byContradiction fun hc => hna ⟨x, y, hx, hy, .inl hc⟩, Classical.byContradiction fun hc => hna ⟨x, y, hx, hy, .inr (.inl hc)⟩, fun k p q hp hq => ?_, fun hk => ?_⟩
    · have p1 := ox.parts p (List.mem_of_getElem? hp)
      have q1 := oy.parts q (List.mem_of_getElem? hq)
      exact ⟨by omega, by omega, fls fun hc => hna ⟨x, y, hx, hy, .inr (.inr (.inl ⟨k, p, q, hp, hq, hc⟩))⟩⟩
    · have o1 := ox.of
      have o2 := oy.of
      exact ⟨by omega, by omega, fls fun hc => hna ⟨x, y, hx, hy, .inr (.inr (.inr ⟨hk, hc⟩))⟩⟩
  · intro hl
    cases hc : kn K i j with
    | false => rfl
    | true => exact (h i j hi hj hc hl).elim

theorem ApartP.congr {A : List Ty} {K K' : List (List Bool)} (h : ∀ i j, kn K i j = kn K' i j) {i j : Nat} (ha : ApartP A K i j) : ApartP A K' i j := by
  obtain ⟨x, y, hx, hy, hc⟩ := ha
  refine ⟨x, y, hx, hy, ?_⟩
  simp only [h] at hc
  exact hc
/-- one pass over all pairs, up to a pair -/
structure Pass (A : List Ty) (K0 K : List (List Bool)) (N : Nat) (b : Bool) (n m : Nat) : Prop where
  mono : ∀ i j, kn K0 i j = true → kn K i j = true
  same : b = false → (∀ i j, kn K i j = kn K0 i j) ∧ ∀ i j, (i < n ∨ (i = n ∧ j < m)) → j < N → kn K0 i j = false → ¬ ApartP A K0 i j
  more : b = true → ∃ i j, i < N ∧ j < N ∧ kn K0 i j = false ∧ kn K i j = true
section
variable {A : List Ty} {K0 K : List (List Bool)} {N n m : Nat} {b : Bool}
theorem Pass.init (A : List Ty) (K : List (List Bool)) (N : Nat) : Pass A K K N false 0 0 := ⟨fun _ _ h => h, fun _ => ⟨fun _ _ => rfl, fun i j h => by omega⟩, fun h => by cases h⟩
theorem Pass.skip (h : Pass A K0 K N b n m) (hk : kn K n m = true) : Pass A K0 K N b n (m + 1) := by
  refine ⟨h.mono, fun hb => ⟨(h.same hb).1, fun i j hij hj hf => ?_⟩, h.more⟩
  by_cases e : i = n ∧ j = m
  · obtain ⟨rfl, rfl⟩ := e
    rw [(h.same hb).1] at hk
    rw [hk] at hf; cases hf
  · exact (h.same hb).2 i j (by omega) hj hf
theorem Pass.set (h : Pass A K0 K N b n m) (hn : n < N) (hm : m < N) (hkl : K.length = N) (hrl : (K.getD n []).length = N) (hk : kn K n m = false) {r : Bool} (hr : r = true ↔ ApartP A K n m) : Pass A K0 (knSet K n m r) N (b || r) n (m + 1) := by
  have ks := fun i j => kn_set (K := K) (i := n) (j := m) (by omega) (by omega) r i j
  have h0 : kn K0 n m = false := by
    cases e : kn K0 n m with
    | false => rfl
    | true => rw [h.mono _ _ e] at hk; cases hk
  refine ⟨fun i j hij => ?_, fun hb => ?_, fun hb => ?_⟩
  · rw [ks]
    split
    · rename_i e; obtain ⟨rfl, rfl⟩ := e; rw [h0] at hij; cases hij
    · exact h.mono i j hij
  · obtain ⟨hb', rfl⟩ : b = false ∧ r = false := by cases b <;> cases r <;> simp_all
    have hs := h.same hb'
    refine ⟨fun i j => ?_, fun i j hij hj hf => ?_⟩
    · rw [ks]
      split
      · rename_i e; obtain ⟨rfl, rfl⟩ := e; exact h0.symm
      · exact hs.1 i j
    · by_cases e : i = n ∧ j = m
      · obtain ⟨rfl, rfl⟩ := e
        intro ha
        have := hr.2 (ha.congr fun i j => (hs.1 i j).symm)
        cases this
      · exact hs.2 i j (by omega) hj hf
  · cases b with
    | true =>
      obtain ⟨i, j, hi, hj, h1, h2⟩ := h.more rfl
      refine ⟨i, j, hi, hj, h1, ?_⟩
      rw [ks, if_neg]
      · exact h2
      · rintro ⟨rfl, rfl⟩; rw [hk] at h2; cases h2
    | false =>
      have : r = true := by simpa using hb
      exact ⟨n, m, hn, hm, h0, by rw [ks, if_pos ⟨rfl, rfl⟩]; exact this⟩
theorem Pass.row (h : Pass A K0 K N b n N) : Pass A K0 K N b (n + 1) 0 :=
  ⟨h.mono, fun hb => ⟨(h.same hb).1, fun i j hij hj hf => (h.same hb).2 i j (by omega) hj hf⟩, h.more⟩
theorem Snd.set (ok : ∀ x ∈ A, AllOk A x) (hN : N = A.length) (h : Snd A K N) (hkl : K.length = N) (hrl : (K.getD n []).length = N) (hn : n < N) (hm : m < N) {r : Bool} (hr : r = true ↔ ApartP A K n m) : Snd A (knSet K n m r) N := by
  intro i j hi hj hij
  rw [kn_set (by omega) (by omega)] at hij
  split at hij
  · rename_i e; obtain ⟨rfl, rfl⟩ := e
    exact h.apart ok hN (hr.1 hij)
  · exact h i j hi hj hij
end

theorem ralike_spec {w : World} {l : Sl} {T : List Tp} (h : Tys w l T) (hr : Right (T.map (·.1))) (a b : Int) :
    Calls Try.prog 18 #[.slice l.a l.n l.c, .int .i64 a, .int .i64 b] w fun e w' =>
      ∃ r : Bool, e = .returned (.bool r) ∧ (r = true ↔ 0 ≤ a ∧ 0 ≤ b ∧ Alk (allT (T.map (·.1))) a.toNat b.toNat) ∧ Ext w w' := by
  have hL : (T.map (·.1)).length = T.length := List.length_map ..
  have hal := allT_len (T.map (·.1))
  have hfew := hr.few
  have hl := h.len
  have ok := hr.all
  have out : ∀ {x : Int}, (x < 0 ∨ (l.n : Int) + 2 ≤ x) → ∀ y : Nat, ¬ (0 ≤ x ∧ Alk (allT (T.map (·.1))) x.toNat y) ∧ ¬ (0 ≤ x ∧ Alk (allT (T.map (·.1))) y x.toNat) := fun hx y =>
    ⟨fun hh => by have := hh.2.lt.1; omega, fun hh => by have := hh.2.lt.2; omega⟩
  obtain ⟨A, hA⟩ : ∃ A, allT (T.map (·.1)) = A := ⟨_, rfl⟩
  have hap : ∀ {w B g rows K} (u : Tys w l T) (hM : Mat w B g (T.length + 2) (T.length + 2) rows K) {i j : Nat} (hi : i < T.length + 2) (hj : j < T.length + 2), Calls Try.prog 39 #[.slice l.a l.n l.c, .slice (some ⟨g, 0, none⟩) (T.length + 2) (T.length + 2), .int .i64 (i : Nat), .int .i64 (j : Nat)] w fun e w' =>
      ∃ r : Bool, e = .returned (.bool r) ∧ (r = true ↔ ApartP A K i j) ∧ Qt w w' := fun u hM i j hi hj => by
    rw [← hA]; exact apart_spec u hr hM rfl _ hi hj
  rw [hA] at ok hal out ⊢
  refine vc_18 _ _ _ _ _ ?_
  rw [show IntKind.i64.wrap ((l.n : Int) + 2) = ((T.length + 2 : Nat) : Int) by rw [wrap_i64 (by omega) (by omega)]; omega]
  generalize hN : T.length + 2 = N at *
  simp only [eq_self, false_or, or_false, true_and, and_true, decide_eq_true_eq, decide_eq_false_iff_not, gd_st, gd_sf, exists_eq_left', exists_eq_left, Option.some.injEq, Sl.eta, Nat.reduceLeDiff, Int.reduceLE, Int.reduceLT, Int.reduceEq, Int.reduceNe, Nat.reduceMul, Nat.reduceAdd, Nat.reduceSub, Int.toNat_natCast, beq_iff_eq, bne_iff_ne, beq_eq_false_iff_ne, bne_eq_false_iff_eq, pick_and, pick_or, Bool.and_eq_true, Bool.or_eq_true, Bool.and_eq_false_iff, Bool.or_eq_false_iff, ne_eq, not_false_eq_true, Bool.not_eq_true', Bool.not_eq_false', reduceCtorEq, Nat.le_refl, Nat.zero_mul, Nat.mul_one, Nat.zero_add, Int.reduceToNat, ones, one, add_mk, Decidable.not_not, cond_true, cond_false, true_implies, false_implies, implies_true, Bool.not_true, Bool.not_false]
  refine ⟨fun a0 => ⟨fun a1 => ⟨fun b0 => ⟨fun b1 => ?_, fun b1 => ⟨by omega, ?_⟩⟩, fun b0 => ?_⟩, fun a1 => ?_⟩, fun a0 => ?_⟩
  · exact ⟨false, rfl, ⟨fun h => (by cases h), fun hh => ((out (.inr (by omega)) _).2 ⟨hh.2.1, hh.2.2⟩).elim⟩, Ext.refl w⟩
  rotate_left
  · exact ⟨false, rfl, ⟨fun h => (by cases h), fun hh => ((out (.inl b0) _).2 ⟨hh.2.1, hh.2.2⟩).elim⟩, Ext.refl w⟩
  · exact ⟨false, rfl, ⟨fun h => (by cases h), fun hh => ((out (.inr (by omega)) _).1 ⟨hh.1, hh.2.2⟩).elim⟩, Ext.refl w⟩
  · exact ⟨false, rfl, ⟨fun h => (by cases h), fun hh => ((out (.inl a0) _).1 ⟨hh.1, hh.2.2⟩).elim⟩, Ext.refl w⟩
  clear out
  have hNs : N ≤ 62 := by omega
  intro w1 n1
  have x1 := n1.ext
  have k1 := Blk.new n1
  rw [zrow_one] at k1
  obtain ⟨K0, hK0⟩ : ∃ K0 : List (List Bool), K0 = List.replicate N (List.replicate N false) := ⟨_, rfl⟩
  have hK0g : ∀ i, i < N → K0.getD i [] = List.replicate N false := fun i hi => by
    rw [hK0, List.getD_eq_getElem?_getD, List.getElem?_replicate, if_pos hi]; rfl
  have hkn0 : ∀ i j, i < N → kn K0 i j = false := fun i j hi => by
    unfold kn
    rw [hK0g i hi, List.getD_eq_getElem?_getD, List.getElem?_replicate]
    split <;> rfl
  have m1 : Mat w1 w.heap.size w.heap.size N 0 (List.replicate N ⟨none, 0, 0⟩) K0 := by
    refine ⟨?_, Nat.le_refl _, by simp, by rw [hK0]; simp, fun i s hi => by omega, ?_⟩
    · rw [List.map_replicate]; exact k1
    · exact List.pairwise_replicate.2 (.inr fun p q hp => by cases hp)
  refine ⟨fun n w' => ∃ rows : List Sl, 0 ≤ n ∧ n ≤ N ∧ Mat w' w.heap.size w.heap.size N n.toNat rows K0 ∧ Ext w w' ∧ ∀ (i : Nat) (s : Sl), n.toNat ≤ i → rows[i]? = some s → s.a = none, fun n _ => (N - n).toNat,
    ⟨_, by omega, by omega, m1, x1, fun i s _ hs => ?_⟩, ?_⟩
  · rw [List.getElem?_replicate] at hs
    split at hs
    · injection hs with hs; rw [← hs]
    · cases hs
  rintro _ n w2 ⟨rows, n0, nN, M2, x2, hnone⟩
  refine ⟨fun hlt => ⟨by omega, ?_⟩, fun hge => ?_⟩
  · obtain ⟨i, rfl⟩ : ∃ i : Nat, n = i := ⟨n.toNat, by omega⟩
    rw [Int.toNat_natCast] at M2 hnone
    intro w3 n3
    have x3 := n3.ext
    have M3 := M2.ext x3
    have hrl := M3.len
    refine ⟨by omega, by omega, M3.hd.canSet _ (by simp; omega), ?_⟩
    intro w4 s4
    have hd4 := s4.blk1 M3.hd
    rw [Int.toNat_natCast] at hd4
    have x4 : Ext w w4 := (x2.trans x3).fresh s4.upd (by rintro j rfl; exact Nat.le_refl _)
    have hwg : w.heap.size < w2.heap.size := M2.hd.lt
    have o3 : Own w3 w.heap.size 4 1 ⟨some ⟨w2.heap.size, 0, none⟩, N, N⟩ (bl (List.replicate N false)) := by
      have := Own.made (B := w.heap.size) (n := N) n3 (by omega) (Nat.le_refl _) (by omega)
      rw [show bl (List.replicate N false) = List.replicate N (.bool false) by simp [bl]]
      exact this
    refine ⟨⟨rows.set i ⟨some ⟨w2.heap.size, 0, none⟩, N, N⟩, ?_, ?_, ⟨?_, Nat.le_refl _, by simpa using hrl, M3.klen, fun j s hj hs => ?_, ?_⟩, x4, fun j s hj hs => ?_⟩, ?_⟩
    · (first | (rw [wrap_i64 (by omega) (by omega)]; omega) | (dsimp only; rw [wrap_i64 (by omega) (by omega)]; omega) | (dsimp only; omega))
    · (first | (rw [wrap_i64 (by omega) (by omega)]; omega) | (dsimp only; rw [wrap_i64 (by omega) (by omega)]; omega) | (dsimp only; omega))
    · rw [List.map_set]; exact hd4
    · rw [wrap_i64 (by omega) (by omega)] at hj
      rw [hK0g j (by omega), List.getElem?_set] at *
      split at hs
      · rename_i e
        subst e
        rw [if_pos (by omega)] at hs
        injection hs with hs; subst hs
        exact ⟨o3.upd s4.upd (own_blk_ne o3 M3.hd (by decide)), by simp, rfl⟩
      · obtain ⟨ho, hk, hn⟩ := M3.row j s (by omega) hs
        rw [hK0g j (by omega)] at ho hk
        exact ⟨ho.upd s4.upd (own_blk_ne ho M3.hd (by decide)), hk, hn⟩
    · rw [List.pairwise_iff_getElem]
      intro j k hj hk hjk
      rw [List.length_set] at hj hk
      have hap := List.pairwise_iff_getElem.1 M2.apart j k hj hk hjk
      have other : ∀ m (hm : m < rows.length), m ≠ i → Apart rows[m] ⟨some ⟨w2.heap.size, 0, none⟩, N, N⟩ := fun m hm hne p q hp hq => by
        injection hq with hq; subst hq
        rcases Nat.lt_or_ge m i with hlt | hge
        · have ho := (M2.row m rows[m] hlt (List.getElem?_eq_getElem hm)).1
          have := (ho.base p hp).2
          dsimp only; omega
        · have := hnone m rows[m] hge (List.getElem?_eq_getElem hm)
          rw [this] at hp; cases hp
      rw [List.getElem_set, List.getElem_set]
      split
      · rename_i e; subst e
        rw [if_neg (by omega)]
        exact (other k hk (by omega)).symm
      · split
        · exact other j hj (by omega)
        · exact hap
    · rw [wrap_i64 (by omega) (by omega)] at hj
      rw [List.getElem?_set, if_neg (by omega)] at hs
      exact hnone j s (by omega) hs
    · (first | (rw [wrap_i64 (by omega) (by omega)]; omega) | (dsimp only; rw [wrap_i64 (by omega) (by omega)]; omega) | (dsimp only; omega))
  have hnN : n.toNat = N := by omega
  rw [hnN] at M2
  have hrl := M2.len
  refine ⟨fun b w' => ∃ K, Mat w' w.heap.size w.heap.size N N rows K ∧ Snd A K N ∧ Ext w w' ∧ (b = false → ∀ i j, i < N → j < N → kn K i j = false → ¬ ApartP A K i j), fun b w' => 2 * cnt2 (rdM w' w.heap.size) N N + (if b = true then 1 else 0),
    ⟨K0, M2, fun i j hi hj hk => (by rw [hkn0 i j hi] at hk; cases hk), x2, fun h => (by cases h)⟩, ?_⟩
  rintro _ more w3 ⟨K, M3, S3, x3, hno⟩
  refine ⟨fun hmore => ?_, fun hmore => ?_⟩
  rotate_left
  · obtain ⟨s, hs, hcs, hsn, hcell⟩ := M3.at_ (i := a.toNat) (by omega) (Nat.le_refl _)
    obtain ⟨p, hp, hc⟩ := hcell b.toNat (by omega)
    refine ⟨by omega, by omega, s, hcs, by omega, by omega, p, hp, _, hc, _, rfl, ?_, x3⟩
    have hd := S3.done ok (by omega) (hno hmore) (i := a.toNat) (j := b.toNat) (by omega) (by omega)
    rw [Bool.not_eq_true', hd]
    exact ⟨fun h => ⟨by omega, by omega, h⟩, fun h => h.2.2⟩
  subst hmore
  refine ⟨fun b n w' => ∃ K', 0 ≤ n ∧ n ≤ N ∧ Mat w' w.heap.size w.heap.size N N rows K' ∧ Snd A K' N ∧ Ext w w' ∧ Pass A K K' N b n.toNat 0, fun _ n _ => (N - n).toNat,
    ⟨K, by omega, by omega, M3, S3, x3, Pass.init A K N⟩, ?_⟩
  rintro _ b1 n w4 ⟨K1, p0, p1, M4, S4, x4, P4⟩
  refine ⟨fun hlt => ?_, fun hge => ?_⟩
  rotate_left
  · have hnN : n.toNat = N := by omega
    rw [hnN] at P4
    refine ⟨⟨K1, M4, S4, x4, fun hb i j hi hj hf ha => ?_⟩, ?_⟩
    · have hs := P4.same hb
      exact hs.2 i j (.inl hi) hj (by rw [← hs.1]; exact hf) (ha.congr hs.1)
    · dsimp only
      rw [M4.cnt, M3.cnt]
      cases b1 with
      | true =>
        have := cnt2_lt (f := kn K) (f' := kn K1) N N (fun i j _ _ => P4.mono i j) (by obtain ⟨i, j, h⟩ := P4.more rfl; exact ⟨i, j, h⟩)
        omega
      | false =>
        have := cnt2_le (f := kn K) (f' := kn K1) N N (fun i j _ _ => P4.mono i j)
        simp; omega
  obtain ⟨i, rfl⟩ : ∃ i : Nat, n = i := ⟨n.toNat, by omega⟩
  rw [Int.toNat_natCast] at P4
  refine ⟨fun b m w' => ∃ K', 0 ≤ m ∧ m ≤ N ∧ Mat w' w.heap.size w.heap.size N N rows K' ∧ Snd A K' N ∧ Ext w w' ∧ Pass A K K' N b i m.toNat, fun _ m _ => (N - m).toNat,
    ⟨K1, by omega, by omega, M4, S4, x4, P4⟩, ?_⟩
  rintro _ b2 m w5 ⟨K2, q0, q1, M5, S5, x5, P5⟩
  refine ⟨fun hltm => ?_, fun hgem => ?_⟩
  rotate_left
  · have hmN : m.toNat = N := by omega
    rw [hmN] at P5
    refine ⟨⟨K2, ?_, ?_, M5, S5, x5, ?_⟩, ?_⟩
    · (first | (rw [wrap_i64 (by omega) (by omega)]; omega) | (dsimp only; rw [wrap_i64 (by omega) (by omega)]; omega) | (dsimp only; omega))
    · (first | (rw [wrap_i64 (by omega) (by omega)]; omega) | (dsimp only; rw [wrap_i64 (by omega) (by omega)]; omega) | (dsimp only; omega))
    · rw [wrap_i64 (by omega) (by omega), show ((i : Int) + 1).toNat = i + 1 by omega]
      exact P5.row
    · (first | (rw [wrap_i64 (by omega) (by omega)]; omega) | (dsimp only; rw [wrap_i64 (by omega) (by omega)]; omega) | (dsimp only; omega))
  obtain ⟨j, rfl⟩ : ∃ j : Nat, m = j := ⟨m.toNat, by omega⟩
  rw [Int.toNat_natCast] at P5
  obtain ⟨s, hs, hcs, hsn, hcell⟩ := M5.at_ (i := i) (by omega) (Nat.le_refl _)
  obtain ⟨p, hp, hc⟩ := hcell j (by omega)
  simp only [Int.toNat_natCast]
  refine ⟨by omega, by omega, s, hcs, by omega, by omega, p, hp, _, hc, fun hf => ?_, fun ht => ⟨⟨K2, ?_, ?_, M5, S5, x5, ?_⟩, ?_⟩⟩
  rotate_left
  · (first | (rw [wrap_i64 (by omega) (by omega)]; omega) | (dsimp only; rw [wrap_i64 (by omega) (by omega)]; omega) | (dsimp only; omega))
  · (first | (rw [wrap_i64 (by omega) (by omega)]; omega) | (dsimp only; rw [wrap_i64 (by omega) (by omega)]; omega) | (dsimp only; omega))
  · rw [wrap_i64 (by omega) (by omega), show ((j : Int) + 1).toNat = j + 1 by omega]
    exact P5.skip ht
  · (first | (rw [wrap_i64 (by omega) (by omega)]; omega) | (dsimp only; rw [wrap_i64 (by omega) (by omega)]; omega) | (dsimp only; omega))
  intro w6 q6
  have x6 : Ext w w6 := x5.trans q6.ext
  have M6 := M5.ext q6.ext
  refine ⟨fun _ => False, by omega, by omega, s, fun w' u => ?_, ⟨(hap (h.ext x6) M6 (i := i) (j := j) (by omega) (by omega)).mono ?_⟩⟩
  · obtain ⟨s', hs', hcs', _⟩ := (M6.ext u).at_ (i := i) (by omega) (Nat.le_refl _)
    rw [hs] at hs'; injection hs' with hs'; subst hs'
    exact hcs'
  rintro e w7 ⟨r, rfl, hr7, q7⟩
  have M7 := M6.ext q7.ext
  have x7 := x6.trans q7.ext
  obtain ⟨ho, hrlen, _⟩ := M7.row i s (by omega) hs
  refine ⟨_, rfl, q7.ext, by omega, by omega, p, hp, ho.canAt hp (by omega), ?_⟩
  intro w8 s8
  obtain ⟨M8, u8⟩ := M7.set (by omega) (by omega) hs hp s8
  have x8 : Ext w w8 := x7.fresh u8 fun k hk => by subst hk; exact (ho.base p hp).1
  have S8 := S5.set ok (by omega) M7.klen hrlen (by omega) (by omega) hr7
  have P8 := P5.set (by omega) (by omega) M7.klen hrlen hf hr7
  obtain ⟨s', hs', hcs', _, hcell8⟩ := M8.at_ (i := i) (by omega) (Nat.le_refl _)
  rw [hs] at hs'; injection hs' with hs'; subst hs'
  obtain ⟨p', hp', hc8⟩ := hcell8 j (by omega)
  rw [hp] at hp'; injection hp' with hp'; subst hp'
  have hkl7 := M7.klen
  rw [kn_set (by omega) (by omega), if_pos ⟨rfl, rfl⟩] at hc8
  refine ⟨fun hb => ⟨by omega, by omega, s, hcs', by omega, by omega, p, hp, r, hc8, ⟨_, ?_, ?_, M8, S8, x8, ?_⟩, ?_⟩, fun hb => ⟨⟨_, ?_, ?_, M8, S8, x8, ?_⟩, ?_⟩⟩
  · (first | (rw [wrap_i64 (by omega) (by omega)]; omega) | (dsimp only; rw [wrap_i64 (by omega) (by omega)]; omega) | (dsimp only; omega))
  · (first | (rw [wrap_i64 (by omega) (by omega)]; omega) | (dsimp only; rw [wrap_i64 (by omega) (by omega)]; omega) | (dsimp only; omega))
  · rw [wrap_i64 (by omega) (by omega), show ((j : Int) + 1).toNat = j + 1 by omega]
    rw [hb, Bool.false_or] at P8
    exact P8
  · (first | (rw [wrap_i64 (by omega) (by omega)]; omega) | (dsimp only; rw [wrap_i64 (by omega) (by omega)]; omega) | (dsimp only; omega))
  · (first | (rw [wrap_i64 (by omega) (by omega)]; omega) | (dsimp only; rw [wrap_i64 (by omega) (by omega)]; omega) | (dsimp only; omega))
  · (first | (rw [wrap_i64 (by omega) (by omega)]; omega) | (dsimp only; rw [wrap_i64 (by omega) (by omega)]; omega) | (dsimp only; omega))
  · rw [wrap_i64 (by omega) (by omega), show ((j : Int) + 1).toNat = j + 1 by omega]
    rw [hb, Bool.true_or] at P8
    exact P8
  · (first | (rw [wrap_i64 (by omega) (by omega)]; omega) | (dsimp only; rw [wrap_i64 (by omega) (by omega)]; omega) | (dsimp only; omega))
end Go.Proofs.Ytiljdcopkgmcbaa.V
