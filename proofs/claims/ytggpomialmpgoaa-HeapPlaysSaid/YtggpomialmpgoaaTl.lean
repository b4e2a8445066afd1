/-
  A slice of the call's own that may begin within its block: cut from its front, and appended to.
-/
import Derived.Test.YtggpomialmpgoaaOwn2
import Derived.ArgAppend
namespace Go.Proofs.Ytggpomialmpgoaa.V
open Go Go.RowKit
set_option linter.unusedVariables false
set_option linter.unusedSimpArgs false
set_option maxRecDepth 100000

structure Tl (w : World) (B e : Nat) (s : Sl) (xs : List Value) : Prop where
  len : xs.length = s.n
  cap : s.n ≤ s.c ∧ s.c ≤ 9223372036854775807
  ex : (s.a = none ∧ s.n = 0 ∧ s.c = 0) ∨ ∃ g o cs, s.a = some ⟨g, o, none⟩ ∧ B ≤ g ∧ Blk w g e cs ∧ o + s.c ≤ cs.length ∧ (cs.drop o).take s.n = xs
section
variable {w w' : World} {B e : Nat} {s : Sl} {xs : List Value} {S : Nat → Prop}
theorem Tl.of_own (h : Own w B e 1 s xs) : Tl w B e s xs := by
  have hl := h.len1
  cases ha : s.a with
  | none =>
    have h0 := (h.none_ ha).1
    rw [h0] at hl ⊢
    exact ⟨hl, ⟨Nat.le_refl _, by decide⟩, .inl ⟨rfl, rfl, rfl⟩⟩
  | some p =>
    obtain ⟨g, cs, hg, hB, hb, hn, hc, hcl, ht⟩ := h.blk (by rw [ha]; simp)
    rw [Nat.mul_one] at hcl ht
    exact ⟨hl, ⟨hn, by have : maxLen = 9223372036854775807 := by unfold maxLen; simp
                       omega⟩, .inr ⟨g, 0, cs, hg, hB, hb, by omega, by rw [List.drop_zero]; exact ht⟩⟩
theorem Tl.base (h : Tl w B e s xs) : ∀ p, s.a = some p → B ≤ p.block ∧ p.block < w.heap.size := by
  intro p hp
  rcases h.ex with ⟨ha, _⟩ | ⟨g, o, cs, ha, hB, hb, _⟩
  · rw [hp] at ha; cases ha
  · rw [hp] at ha; injection ha with ha; subst ha; exact ⟨hB, hb.lt⟩
theorem Tl.upd (h : Tl w B e s xs) (u : Upd S w w') (hS : s.off S) : Tl w' B e s xs := by
  refine ⟨h.len, h.cap, ?_⟩
  rcases h.ex with h0 | ⟨g, o, cs, ha, hB, hb, r⟩
  · exact .inl h0
  · exact .inr ⟨g, o, cs, ha, hB, hb.upd u (hS _ ha), r⟩
theorem Tl.ext (h : Tl w B e s xs) (u : Ext w w') : Tl w' B e s xs := h.upd u fun _ _ => not_false
theorem Tl.rd (h : Tl w B e s xs) : Rd w 1 s xs := by
  refine ⟨by rw [Nat.mul_one]; exact h.len, fun hn => ?_⟩
  rcases h.ex with ⟨_, h0, _⟩ | ⟨g, o, cs, ha, hB, hb, hc, ht⟩
  · omega
  · refine ⟨_, ha, fun j v hv => ?_⟩
    rw [add_mk, hb.cell]
    rw [← ht, List.getElem?_take] at hv
    split at hv
    · rw [List.getElem?_drop] at hv; exact hv
    · cases hv
theorem Tl.tail {x : Value} (h : Tl w B e s (x :: xs)) : Tl w B e ⟨if s.c = 1 then s.a else Option.map (fun p : Addr => p.add 1) s.a, s.n - 1, s.c - 1⟩ xs := by
  have hl := h.len; have hc := h.cap
  rw [List.length_cons] at hl
  refine ⟨by dsimp only; omega, ⟨by dsimp only; omega, by dsimp only; omega⟩, ?_⟩
  rcases h.ex with ⟨_, h0, _⟩ | ⟨g, o, cs, ha, hB, hb, hcs, ht⟩
  · omega
  · have hx : xs = (cs.drop (o + 1)).take (s.n - 1) := by
      have h1 : (cs.drop o).take s.n = x :: xs := ht
      obtain ⟨m, hm⟩ : ∃ m, s.n = m + 1 := ⟨s.n - 1, by omega⟩
      rw [hm] at h1 ⊢
      cases hd : cs.drop o with
      | nil => rw [hd] at h1; cases h1
      | cons y ys =>
        rw [hd, List.take_succ_cons] at h1
        injection h1 with _ h1
        have : cs.drop (o + 1) = ys := by rw [← List.drop_drop, hd]; rfl
        rw [this, Nat.add_sub_cancel]; exact h1.symm
    by_cases h1 : s.c = 1
    · rw [if_pos h1]
      refine .inr ⟨g, o, cs, ha, hB, hb, by dsimp only; omega, ?_⟩
      have : xs = [] := List.eq_nil_of_length_eq_zero (by omega)
      rw [this]
      show (cs.drop o).take (s.n - 1) = []
      rw [show s.n - 1 = 0 by omega]; rfl
    · rw [if_neg h1, ha]
      exact .inr ⟨g, o + 1, cs, rfl, hB, hb, by dsimp only; omega, hx.symm⟩
variable {P : Program} {τ : Tab}
theorem Tl.append1 (hτ : τ.Ok P) {t ty by_ : Nat} {zs : List Value} (ht : lk τ.und t = some (.slice e)) (hs : lk τ.siz e = some (1, by_, zs))
    (h : Tl w B e s xs) {ad : Addr} {v : Value} (hx : w.cell? (ad.add 0) = some v) (h1 : one v) (hb : (s.n + 1) * by_ ≤ 140737488355328) (hm : s.n + 1 ≤ 9223372036854775807) (hB : B ≤ w.heap.size) :
    ∃ r w', Runs P (Builtin.append_ #[t, t] ty #[.slice s.a s.n s.c, .slice (some ad) 1 1]) w (.slice r.a r.n r.c) w' ∧ r.n = s.n + 1 ∧ Tl w' B e r (xs ++ [v]) ∧ Upd (fun k => ∃ p, s.a = some p ∧ k = p.block) w w' ∧
      (∀ p, r.a = some p → (∃ q, s.a = some q ∧ q.block = p.block) ∨ w.heap.size ≤ p.block) := by
  rcases h.ex with ⟨ha, hn, hc⟩ | ⟨g, o, cs, ha, hBg, hbk, hcs, hxs⟩
  · obtain ⟨a, n, c⟩ := s
    dsimp only at ha hn hc
    subst ha; subst hn; subst hc
    have hxs : xs = [] := List.eq_nil_of_length_eq_zero h.len
    subst hxs
    obtain ⟨r, w', hr, hrn, o', u', c'⟩ := (Own.nil w B e 1).append (P := P) hτ (t := t) (ty := ty) ht hs (by decide) (x := ⟨some ad, 1, 1⟩) (news := [v]) ⟨rfl, fun _ => ⟨ad, rfl, fun j u hj => by
      cases j with
      | zero => injection hj with hj; subst hj; exact hx
      | succ j => cases hj⟩⟩ (fun u hu => by rw [List.mem_singleton.1 hu]; exact h1) hb hm hB
    exact ⟨r, w', hr, hrn, .of_own o', u', fun p hp => (c' p hp).imp (fun hh => ⟨p, hh, rfl⟩) id⟩
  · obtain ⟨i, hi, hi1, hi2, hi3, zv, hz1, hz2⟩ := hτ.siz _ _ _ _ hs
    have hu := hτ.slice ht
    have hnews : ∀ j u, [v][j]? = some u → w.cell? (ad.add j) = some u := fun j u hj => by
      cases j with
      | zero => injection hj with hj; subst hj; exact hx
      | succ j => cases hj
    have hone : ∀ u ∈ [v], u.oneCell' = true := fun u hu => by rw [List.mem_singleton.1 hu]; exact one_one h1
    have hlen := h.len
    by_cases hroom : s.n + 1 ≤ s.c
    · have hrun := run_append_room_cells (P := P) w t ty e i hu hi g o s.n s.c ad 1 1 [v] (by simp [hi1]) hnews hone hroom (fun j hj => by
        rw [hi1, Nat.mul_one, hbk.cell]
        simp only [List.length_singleton] at hj
        rw [List.getElem?_eq_getElem (by omega)]; rfl) (fun j hj => hbk.frozen _)
      rw [hi1, Nat.mul_one] at hrun
      have hset : SetW w ⟨g, o + s.n, none⟩ [v] (w.setCells g (o + s.n) [v]) := rfl
      have hb' := hset.blk1 hbk
      have hu' : Upd (fun k => k = g) w (w.setCells g (o + s.n) [v]) := hset.upd
      refine ⟨⟨some ⟨g, o, none⟩, s.n + 1, s.c⟩, _, by rw [ha]; exact hrun, rfl, ⟨by simp [hlen], ⟨hroom, h.cap.2⟩, .inr ⟨g, o, _, rfl, hBg, hb', by rw [List.length_set]; exact hcs, ?_⟩⟩, hu'.mono fun k _ hn he => hn ⟨_, ha, he⟩, fun p hp => .inl ⟨_, ha, by injection hp with hp; rw [← hp]⟩⟩
      apply List.ext_getElem?
      intro j
      dsimp only
      rw [List.getElem?_take, List.getElem?_drop, List.getElem?_set]
      by_cases hj : j < s.n
      · rw [if_pos (by omega), if_neg (by omega), List.getElem?_append_left (by omega), ← hxs, List.getElem?_take, if_pos hj, List.getElem?_drop]
      · by_cases hj2 : j = s.n
        · subst hj2
          rw [if_pos (by omega), if_pos rfl, if_pos (by omega), List.getElem?_append_right (by omega), hlen, Nat.sub_self]; rfl
        · rw [if_neg (by omega), List.getElem?_eq_none (by rw [List.length_append, List.length_singleton]; omega)]
    · obtain ⟨v', w', hrun, ho, hg⟩ := run_append_arg_grows (P := P) w t ty e i zv 1 by_ hu hi hz1 hi1 hi2 (by rw [hz2]; simp [hi3]) (by decide) ⟨g, o, none⟩ s.n s.c xs (by rw [hlen, Nat.mul_one]) (fun j u hj => by
        have hr := h.rd.2 (by have := (List.getElem?_eq_some_iff.1 hj).1; omega)
        obtain ⟨p, hp, hc⟩ := hr
        rw [ha] at hp; injection hp with hp; subst hp
        exact hc j u hj) ad 1 1 [v] (by simp) hnews (by omega) (by have : maxLen = 9223372036854775807 := by unfold maxLen; simp
                                                                   omega) hb
      have hform : ∃ r : Sl, v' = r.val ∧ r.n = s.n + 1 := by
        rcases ho.2 with ⟨rfl, h0⟩ | ⟨g, cap, cur, rfl, _⟩
        · exact ⟨⟨none, 0, 0⟩, rfl, h0.symm⟩
        · exact ⟨⟨_, _, cap⟩, rfl, rfl⟩
      obtain ⟨r, rfl, hrn⟩ := hform
      have hown : Own w' w.heap.size e 1 r (xs ++ [v]) := by unfold Own; rw [hrn]; exact ho
      refine ⟨r, w', by rw [ha]; exact hrun, hrn, .of_own (hown.mono hB), (Upd.of_grown hg).mono fun k hk hn he => (by cases he), fun p hp => .inr (hown.base p hp).1⟩
end
end Go.Proofs.Ytggpomialmpgoaa.V
