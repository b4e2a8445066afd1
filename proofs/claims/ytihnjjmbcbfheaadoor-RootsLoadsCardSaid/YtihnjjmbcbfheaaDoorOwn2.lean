/-
  Rows of the call's own: a cell set, a row cut short.
-/
import Derived.Test.YtihnjjmbcbfheaaDoorArith
namespace Go.Proofs.YtihnjjmbcbfheaaDoor.V
open Go Go.RowKit
set_option linter.unusedVariables false
set_option linter.unusedSimpArgs false

section
variable {w w' w1 : World} {B e z : Nat} {s : Sl} {xs : List Value} {S : Nat → Prop}
theorem Own.canAt (h : Own w B e z s xs) {p : Addr} (hp : s.a = some p) {i : Nat} (hi : i < s.n * z) : CanSet w (p.add i) 1 := by
  obtain ⟨g, cs, ha, _, hb, hn, _, hl, _⟩ := h.blk (by rw [hp]; simp)
  rw [hp] at ha; injection ha with ha; subst ha
  rw [add_mk]
  exact hb.canSet _ (by rw [hl]; have := Nat.mul_le_mul_right z hn; omega)
theorem Own.setAt (h : Own w B e z s xs) {p : Addr} (hp : s.a = some p) {i : Nat} {v : Value} (hi : i < s.n * z) (hs : SetW w (p.add i) [v] w1) :
    Own w1 B e z s (xs.set i v) ∧ Upd (fun k => k = p.block) w w1 := by
  obtain ⟨g, cs, ha, hB, hb, hn, hc, hl, ht⟩ := h.blk (by rw [hp]; simp)
  rw [hp] at ha; injection ha with ha; subst ha
  rw [add_mk, Nat.zero_add] at hs
  have hb1 := hs.blk1 hb
  refine ⟨?_, hs.upd⟩
  have := Own.of_blk (s := s) (z := z) hb1 hB hp hn hc (by simpa using hl)
  rw [List.take_set, ht] at this
  exact this
theorem Own.short (h : Own w B e z s xs) {m : Nat} (hm : m ≤ s.n) : Own w B e z ⟨s.a, m, s.c⟩ (xs.take (m * z)) := by
  cases ha : s.a with
  | none =>
    obtain ⟨h1, h2⟩ := h.none_ ha
    subst h2
    rw [h1] at hm ⊢
    have : m = 0 := Nat.le_zero.1 hm
    subst this
    simpa using Own.nil w B e z
  | some p =>
    obtain ⟨g, cs, hg, hB, hb, hn, hc, hl, ht⟩ := h.blk (by rw [ha]; simp)
    have := Own.of_blk (s := ⟨some p, m, s.c⟩) (z := z) hb hB (by rw [← ha]; exact hg) (Nat.le_trans hm hn) hc hl
    have e : cs.take (m * z) = xs.take (m * z) := by
      rw [← ht, List.take_take, Nat.min_eq_left (Nat.mul_le_mul_right z hm)]
    rw [← e]
    exact this
theorem cut0 (c : Nat) (a : Option Addr) : (if c = 0 then a else Option.map (fun x : Addr => x.add 0) a) = a := by
  split
  · rfl
  · cases a with
    | none => rfl
    | some p => simp [Addr.add]
theorem own_ne {B' e' z' : Nat} {s' : Sl} {xs' : List Value} (h : Own w B e z s xs) (h' : Own w B' e' z' s' xs') (hne : e ≠ e') :
    ∀ p q, s.a = some p → s'.a = some q → p.block ≠ q.block := by
  intro p q hp hq
  obtain ⟨g, cs, hg, _, hb, _⟩ := h.blk (by rw [hp]; simp)
  obtain ⟨g', cs', hg', _, hb', _⟩ := h'.blk (by rw [hq]; simp)
  rw [hp] at hg; injection hg with hg; subst hg
  rw [hq] at hg'; injection hg' with hg'; subst hg'
  exact hb.ne hb' hne
theorem own_blk_ne {g T : Nat} {cs : List Value} (h : Own w B e z s xs) (hb : Blk w g T cs) (hne : e ≠ T) : ∀ p, s.a = some p → p.block ≠ g := by
  intro p hp
  obtain ⟨g', cs', hg, _, hb', _⟩ := h.blk (by rw [hp]; simp)
  rw [hp] at hg; injection hg with hg; subst hg
  exact hb'.ne hb hne
/-- rows that share no block -/
def Apart (s t : Sl) : Prop := ∀ p q, s.a = some p → t.a = some q → p.block ≠ q.block
theorem Apart.symm {s t : Sl} (h : Apart s t) : Apart t s := fun p q hp hq e => h q p hq hp e.symm
theorem pw_set {R : Sl → Sl → Prop} (X Y : List Sl) {b b' : Sl} (h : (X ++ b :: Y).Pairwise R) (h1 : ∀ x ∈ X, R x b → R x b') (h2 : ∀ y ∈ Y, R b y → R b' y) : (X ++ b' :: Y).Pairwise R := by
  rw [List.pairwise_append, List.pairwise_cons] at h ⊢
  refine ⟨h.1, ⟨fun y hy => h2 y hy (h.2.1.1 y hy), h.2.1.2⟩, fun x hx y hy => ?_⟩
  rcases List.mem_cons.1 hy with rfl | hy
  · exact h1 x hx (h.2.2 x hx b (List.mem_cons_self ..))
  · exact h.2.2 x hx y (List.mem_cons_of_mem _ hy)
end
end Go.Proofs.YtihnjjmbcbfheaaDoor.V
