/-
  The laws of types: Copied, the plain part.
-/
import Derived.Test.YtiljdcopkgmcbaaLy10
namespace Go.Proofs.Ytiljdcopkgmcbaa.V
open Go Go.RowKit
set_option linter.unusedVariables false
set_option linter.unusedSimpArgs false
set_option maxRecDepth 100000

def mv (b n : Int) : Int := if n < 2 then n else n + b
def mvT (b : Int) (t : Ty) : Ty := ⟨t.kind, t.parts.map (mv b), mv b t.of⟩
/-- a list so many times, each moved -/
def pre (L : List Ty) : Nat → List Ty
  | 0 => []
  | h + 1 => pre L h ++ L.map (mvT ((h : Int) * L.length))
def fixT (b : Int) : List Ty → List Ty
  | [] => []
  | t :: r => ⟨t.kind, t.parts, mv b t.of⟩ :: r
theorem mv_zero (n : Int) : mv 0 n = n := by unfold mv; split <;> omega
theorem fix_len (b : Int) (l : List Ty) : (fixT b l).length = l.length := by cases l <;> rfl
theorem fix_at (b : Int) (l : List Ty) (j : Nat) (hj : j ≠ 0) : (fixT b l)[j]? = l[j]? := by
  cases l with
  | nil => rfl
  | cons t r =>
    obtain ⟨j, rfl⟩ : ∃ i, j = i + 1 := ⟨j - 1, by omega⟩
    rfl
def twice (L : List Ty) : List Ty := fixT L.length (pre L 2)
theorem twice_len (L : List Ty) : (twice L).length = 2 * L.length := by
  simp [twice, fix_len, pre]; omega
theorem twice_at (L : List Ty) (j : Nat) (hj : j < 2 * L.length) : ∃ x b b', L[if j < L.length then j else j - L.length]? = some x ∧ (twice L)[j]? = some ⟨x.kind, x.parts.map (mv b), mv b' x.of⟩ ∧ (b = 0 ∨ b = (L.length : Int)) ∧ (b' = 0 ∨ b' = (L.length : Int)) := by
  have e2 : pre L 2 = L.map (mvT 0) ++ L.map (mvT L.length) := by simp [pre]
  by_cases h : j < L.length
  · rw [if_pos h]
    have hx : (pre L 2)[j]? = some (mvT 0 L[j]) := by
      rw [e2, List.getElem?_append_left (by simpa using h), List.getElem?_map, List.getElem?_eq_getElem h]; rfl
    by_cases h0 : j = 0
    · subst h0
      refine ⟨_, 0, L.length, List.getElem?_eq_getElem h, ?_, .inl rfl, .inr rfl⟩
      unfold twice
      cases hp : pre L 2 with
      | nil => rw [hp] at hx; simp at hx
      | cons t r =>
        rw [hp] at hx
        simp only [List.getElem?_cons_zero, Option.some.injEq] at hx
        subst hx
        simp [fixT, mvT, mv_zero]
    · refine ⟨_, 0, 0, List.getElem?_eq_getElem h, ?_, .inl rfl, .inl rfl⟩
      unfold twice
      rw [fix_at _ _ _ h0, hx]; rfl
  · rw [if_neg h]
    have hlt : j - L.length < L.length := by omega
    refine ⟨_, L.length, L.length, List.getElem?_eq_getElem hlt, ?_, .inr rfl, .inr rfl⟩
    unfold twice
    rw [fix_at _ _ _ (by omega), e2, List.getElem?_append_right (by simp; omega), List.length_map, List.getElem?_map, List.getElem?_eq_getElem hlt]; rfl
theorem mv_there {k : Nat} {b n : Int} (hb : b = 0 ∨ b = (k : Int)) (h : There k n) : There (2 * k) (mv b n) := by
  unfold There mv at *
  split <;> rcases hb with rfl | rfl <;> omega
theorem kindT_twice {L : List Ty} {b n : Int} (hb : b = 0 ∨ b = (L.length : Int)) (h : There L.length n) : kindT (twice L) (mv b n) = kindT L n := by
  unfold There at h
  unfold mv
  by_cases h2 : n < 2
  · rw [if_pos h2]
    unfold kindT
    rw [if_pos (by omega), if_pos (by omega)]
  · rw [if_neg h2]
    unfold kindT
    rw [if_neg (by rcases hb with rfl | rfl <;> omega), if_neg (by rcases hb with rfl | rfl <;> omega), if_neg (by omega), if_neg (by omega)]
    obtain ⟨x, b1, b2, hx, hy, _⟩ := twice_at L (n + b - 2).toNat (by rcases hb with rfl | rfl <;> omega)
    rw [hy]
    have : (if (n + b - 2).toNat < L.length then (n + b - 2).toNat else (n + b - 2).toNat - L.length) = (n - 2).toNat := by
      rcases hb with rfl | rfl
      · rw [if_pos (by omega)]; omega
      · rw [if_neg (by omega)]; omega
    rw [this] at hx
    rw [hx]
theorem twice_right {L : List Ty} (hR : Right L) (hm : L.length ≤ 30) : Right (twice L) := by
  refine ⟨by rw [twice_len]; omega, fun y hy => ?_⟩
  obtain ⟨j, hj, rfl⟩ := List.getElem_of_mem hy
  rw [twice_len] at hj
  obtain ⟨x, b, b', hx, hy', hb, hb'⟩ := twice_at L j hj
  rw [List.getElem?_eq_getElem (by rw [twice_len]; exact hj)] at hy'
  injection hy' with hy'
  rw [hy']
  have ok := hR.ok x (List.mem_of_getElem? hx)
  refine ⟨ok.kind, fun p hp => ?_, fun hk => ?_, ?_, fun hk => ?_, fun hk => ?_, ?_, fun hk => ?_⟩
  · obtain ⟨q, hq, rfl⟩ := List.mem_map.1 hp
    rw [twice_len]
    exact mv_there hb (ok.parts q hq)
  · dsimp only at hk ⊢
    rw [ok.none_ hk]; rfl
  · dsimp only; rw [List.length_map]; exact ok.few
  · dsimp only at hk ⊢; rw [List.length_map]; exact ok.few4 hk
  · dsimp only at hk ⊢; rw [ok.of2 hk]; rfl
  · rw [twice_len]; exact mv_there hb' ok.of
  · dsimp only at hk ⊢
    have h5 := ok.of5 hk
    unfold objT at h5 ⊢
    rw [kindT_twice hb' ok.of]
    simp only [decide_eq_true_eq] at h5 ⊢
    refine ⟨h5.1, h5.2.1, ?_⟩
    unfold mv
    rw [if_neg (by omega)]
    rcases hb' with rfl | rfl <;> omega
def base (k a : Nat) : Nat := if a < k + 2 then a else a - k
theorem base_mv {k : Nat} {b n : Int} (hb : b = 0 ∨ b = (k : Int)) (h : There k n) : base k (mv b n).toNat = n.toNat := by
  unfold There at h
  unfold base mv
  by_cases h2 : n < 2
  · rw [if_pos h2, if_pos (by omega)]
  · rw [if_neg h2]
    rcases hb with rfl | rfl
    · rw [if_pos (by omega)]; omega
    · rw [if_neg (by omega)]; omega
theorem all_twice {L : List Ty} (hR : Right L) {a : Nat} (ha : a < 2 * L.length + 2) : ∃ x y, (allT L)[base L.length a]? = some x ∧ (allT (twice L))[a]? = some y ∧ y.kind = x.kind ∧ y.parts.length = x.parts.length ∧
    (∀ (j : Nat) (p : Int), y.parts[j]? = some p → ∃ q, x.parts[j]? = some q ∧ base L.length p.toNat = q.toNat ∧ p.toNat < 2 * L.length + 2) ∧ (2 < x.kind → base L.length y.of.toNat = x.of.toNat ∧ y.of.toNat < 2 * L.length + 2) := by
  by_cases h0 : a = 0
  · subst h0
    exact ⟨⟨0, [], 0⟩, ⟨0, [], 0⟩, by simp [base, allT], rfl, rfl, rfl, fun j p hp => by simp at hp, fun h => absurd h (by decide)⟩
  by_cases h1 : a = 1
  · subst h1
    exact ⟨⟨1, [], 0⟩, ⟨1, [], 0⟩, by simp [base, allT], rfl, rfl, rfl, fun j p hp => by simp at hp, fun h => absurd h (by decide)⟩
  obtain ⟨j, rfl⟩ : ∃ j, a = j + 2 := ⟨a - 2, by omega⟩
  obtain ⟨x, b, b', hx, hy, hb, hb'⟩ := twice_at L j (by omega)
  have ok := hR.ok x (List.mem_of_getElem? hx)
  have tl := twice_len L
  have hbase : base L.length (j + 2) = (if j < L.length then j else j - L.length) + 2 := by
    unfold base
    by_cases h : j < L.length
    · rw [if_pos h, if_pos (by omega)]
    · rw [if_neg h, if_neg (by omega)]; omega
  have lt : ∀ {b n : Int}, (b = 0 ∨ b = (L.length : Int)) → There L.length n → (mv b n).toNat < 2 * L.length + 2 := fun hb hn => by
    have := mv_there hb hn
    unfold There at this
    omega
  refine ⟨x, ⟨x.kind, x.parts.map (mv b), mv b' x.of⟩, ?_, ?_, rfl, by simp, fun i p hp => ?_, fun _ => ⟨base_mv hb' ok.of, lt hb' ok.of⟩⟩
  · rw [hbase]; exact hx
  · exact hy
  · rw [List.getElem?_map] at hp
    obtain ⟨q, hq, rfl⟩ := Option.map_eq_some_iff.1 hp
    have ht := ok.parts q (List.mem_of_getElem? hq)
    exact ⟨q, hq, base_mv hb ht, lt hb ht⟩
theorem twice_alk {L : List Ty} (hR : Right L) {i : Nat} (h2 : 2 ≤ i) (hi : i < L.length + 2) : Alk (allT (twice L)) i (i + L.length) := by
  refine ⟨fun a b => a < 2 * L.length + 2 ∧ b < 2 * L.length + 2 ∧ base L.length a = base L.length b, ?_, by omega, by omega, ?_⟩
  · rintro a b ⟨ha, hb, hab⟩
    obtain ⟨x, y, hx, hy, k1, k2, k3, k4⟩ := all_twice hR ha
    obtain ⟨x', y', hx', hy', l1, l2, l3, l4⟩ := all_twice hR hb
    rw [hab, hx'] at hx
    injection hx with hx
    subst hx
    refine ⟨y, y', hy, hy', by rw [k1, l1], by rw [k2, l2], fun j p q hp hq => ?_, fun hk => ?_⟩
    · obtain ⟨u, hu, e1, e2⟩ := k3 j p hp
      obtain ⟨u', hu', e3, e4⟩ := l3 j q hq
      rw [hu] at hu'; injection hu' with hu'; subst hu'
      exact ⟨e2, e4, by rw [e1, e3]⟩
    · rw [k1] at hk
      obtain ⟨e1, e2⟩ := k4 hk
      obtain ⟨e3, e4⟩ := l4 hk
      exact ⟨e2, e4, by rw [e1, e3]⟩
  · unfold base
    rw [if_pos hi, if_neg (by omega)]; omega
end Go.Proofs.Ytiljdcopkgmcbaa.V
