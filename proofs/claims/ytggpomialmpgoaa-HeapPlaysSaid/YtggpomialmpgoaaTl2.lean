/-
  A slice of the call's own that begins within its block: one more word, where the slice may be as long as arguments go.
-/
import Derived.Test.YtggpomialmpgoaaTl
namespace Go.Proofs.Ytggpomialmpgoaa.V
open Go Go.RowKit
set_option linter.unusedVariables false
set_option linter.unusedSimpArgs false
set_option maxRecDepth 100000

theorem grow8 {n : Nat} (h : n ≤ 22000000000000) : Builtin.nextslicecap (n + 1) n * 8 ≤ 281474976710656 := by
  unfold Builtin.nextslicecap
  split
  · omega
  · split
    · omega
    · rw [growBy_four]
      repeat' split
      all_goals omega
section
variable {w w' : World} {B e : Nat} {s : Sl} {xs : List Value} {S : Nat → Prop} {P : Program} {τ : Tab}
theorem Tl.append8 (hτ : τ.Ok P) {t ty : Nat} {zs : List Value} (ht : lk τ.und t = some (.slice e)) (hs : lk τ.siz e = some (1, 8, zs))
    (h : Tl w B e s xs) {ad : Addr} {v : Value} (hx : w.cell? (ad.add 0) = some v) (h1 : one v) (hb : s.n ≤ 22000000000000) (hB : B ≤ w.heap.size) :
    ∃ r w', Runs P (Builtin.append_ #[t, t] ty #[.slice s.a s.n s.c, .slice (some ad) 1 1]) w (.slice r.a r.n r.c) w' ∧ r.n = s.n + 1 ∧ Tl w' B e r (xs ++ [v]) ∧ Upd (fun k => ∃ p, s.a = some p ∧ k = p.block) w w' ∧
      (∀ p, r.a = some p → (∃ q, s.a = some q ∧ q.block = p.block) ∨ w.heap.size ≤ p.block) := by
  rcases h.ex with ⟨ha, hn, hc⟩ | ⟨g, o, cs, ha, hBg, hbk, hcs, hxs⟩
  · obtain ⟨a, n, c⟩ := s
    dsimp only at ha hn hc
    subst ha; subst hn; subst hc
    have hxs : xs = [] := List.eq_nil_of_length_eq_zero h.len
    subst hxs
    obtain ⟨r, w', hr, hrn, o', u', c'⟩ := (Own.nil w B e 1).append (P := P) hτ (t := t) (ty := ty) ht hs (by decide) (x := ⟨some ad, 1, 1⟩) (news := [v]) ⟨rfl, fun _ => ⟨ad, rfl, fun j u hj => by
      cases j with
      | zero => injection hj with hj; subst hj; exact hx
      | succ j => cases hj⟩⟩ (fun u hu => by rw [List.mem_singleton.1 hu]; exact h1) (by dsimp only; omega) (by dsimp only; omega) hB
    exact ⟨r, w', hr, hrn, .of_own o', u', fun p hp => (c' p hp).imp (fun hh => ⟨p, hh, rfl⟩) id⟩
  · obtain ⟨i, hi, hi1, hi2, hi3, zv, hz1, hz2⟩ := hτ.siz _ _ _ _ hs
    have hu := hτ.slice ht
    have hnews : ∀ j u, [v][j]? = some u → w.cell? (ad.add j) = some u := fun j u hj => by
      cases j with
      | zero => injection hj with hj; subst hj; exact hx
      | succ j => cases hj
    have hone : ∀ u ∈ [v], u.oneCell' = true := fun u hu => by rw [List.mem_singleton.1 hu]; exact one_one h1
    have hlen := h.len
    by_cases hroom : s.n + 1 ≤ s.c
    · have hrun := run_append_room_cells (P := P) w t ty e i hu hi g o s.n s.c ad 1 1 [v] (by simp [hi1]) hnews hone hroom (fun j hj => by
        rw [hi1, Nat.mul_one, hbk.cell]
        simp only [List.length_singleton] at hj
        rw [List.getElem?_eq_getElem (by omega)]; rfl) (fun j hj => hbk.frozen _)
      rw [hi1, Nat.mul_one] at hrun
      have hset : SetW w ⟨g, o + s.n, none⟩ [v] (w.setCells g (o + s.n) [v]) := rfl
      have hb' := hset.blk1 hbk
      have hu' : Upd (fun k => k = g) w (w.setCells g (o + s.n) [v]) := hset.upd
      refine ⟨⟨some ⟨g, o, none⟩, s.n + 1, s.c⟩, _, by rw [ha]; exact hrun, rfl, ⟨by simp [hlen], ⟨hroom, h.cap.2⟩, .inr ⟨g, o, _, rfl, hBg, hb', by rw [List.length_set]; exact hcs, ?_⟩⟩, hu'.mono fun k _ hn he => hn ⟨_, ha, he⟩, fun p hp => .inl ⟨_, ha, by injection hp with hp; rw [← hp]⟩⟩
      apply List.ext_getElem?
      intro j
      dsimp only
      rw [List.getElem?_take, List.getElem?_drop, List.getElem?_set]
      by_cases hj : j < s.n
      · rw [if_pos (by omega), if_neg (by omega), List.getElem?_append_left (by omega), ← hxs, List.getElem?_take, if_pos hj, List.getElem?_drop]
      · by_cases hj2 : j = s.n
        · subst hj2
          rw [if_pos (by omega), if_pos rfl, if_pos (by omega), List.getElem?_append_right (by omega), hlen, Nat.sub_self]; rfl
        · rw [if_neg (by omega), List.getElem?_eq_none (by rw [List.length_append, List.length_singleton]; omega)]
    · have hsc : s.c = s.n := by have := h.cap.1; omega
      have holds : ∀ j u, xs[j]? = some u → w.cell? ((⟨g, o, none⟩ : Addr).add j) = some u := fun j u hj => by
        have hr := h.rd.2 (by have := (List.getElem?_eq_some_iff.1 hj).1; omega)
        obtain ⟨p, hp, hc⟩ := hr
        rw [ha] at hp; injection hp with hp; subst hp
        exact hc j u hj
      have hm63 : maxLen = 9223372036854775807 := by unfold maxLen; simp
      have hge := grownCap_ge w (s.n + 1) s.c e
      have hcm : grownCap w (s.n + 1) s.c e ≤ maxLen := grownCap_le_maxLen w (s.n + 1) s.c e (by omega)
      have hzs : zv.cells.size = 1 := by rw [hz2]; simp [hi3]
      have hrun := run_append_grow (P := P) w t ty e i zv hu hi hz1 ⟨g, o, none⟩ s.n s.c xs (by rw [hi1, Nat.mul_one]; exact hlen) holds ad 1 1 [v] (by simp [hi1]) hnews (by omega) (by omega) (by rw [hi2, hsc]; exact grow8 hb)
      obtain ⟨r, hr1⟩ : ∃ r : Sl, r = ⟨some ⟨w.heap.size, 0, none⟩, s.n + 1, grownCap w (s.n + 1) s.c e⟩ := ⟨_, rfl⟩
      have hrn : r.n = s.n + 1 := by rw [hr1]
      have ho : (w.drew.alloc (.cells (xs.toArray ++ [v].toArray ++ Builtin.zeroCells zv.cells (grownCap w (s.n + 1) s.c e - (s.n + 1))) e)).ownsRow w.heap.size e 1 (.slice (some ⟨w.heap.size, 0, none⟩) (s.n + 1) (grownCap w (s.n + 1) s.c e)) (s.n + 1) (xs ++ [v]) := by
        have hll : (xs ++ [v]).length = (s.n + 1) * 1 := by rw [List.length_append, hlen]; simp
        refine ⟨hll, .inr ⟨w.heap.size, _, _, rfl, Nat.le_refl _, heap_alloc_new w.drew _, hge, hcm, ?_, ?_⟩⟩
        · simp only [Array.size_append, List.size_toArray, size_zeroCells, hzs, hlen, List.length_singleton]
          omega
        · simp only [Array.toList_append, List.append_assoc]
          rw [← List.append_assoc, ← hll]
          exact List.take_left
      have hg : w.grownBy (w.drew.alloc (.cells (xs.toArray ++ [v].toArray ++ Builtin.zeroCells zv.cells (grownCap w (s.n + 1) s.c e - (s.n + 1))) e)) none := ⟨rfl, rfl, rfl, by simp, fun k hk _ => heap_alloc_old w.drew _ hk⟩
      obtain ⟨w', hw'⟩ : ∃ w', w' = w.drew.alloc (.cells (xs.toArray ++ [v].toArray ++ Builtin.zeroCells zv.cells (grownCap w (s.n + 1) s.c e - (s.n + 1))) e) := ⟨_, rfl⟩
      rw [← hw'] at ho hg hrun
      have hown : Own w' w.heap.size e 1 r (xs ++ [v]) := by unfold Own; rw [hr1]; exact ho
      refine ⟨r, w', by rw [ha, hr1]; exact hrun, hrn, .of_own (hown.mono hB), (Upd.of_grown hg).mono fun k hk hn he => (by cases he), fun p hp => .inr (hown.base p hp).1⟩
end
end Go.Proofs.Ytggpomialmpgoaa.V
