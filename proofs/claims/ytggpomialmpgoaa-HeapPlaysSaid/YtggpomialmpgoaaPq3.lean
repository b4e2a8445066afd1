/-
  Collecting both heaps.
-/
import Derived.Test.YtggpomialmpgoaaPq2
namespace Go.Proofs.Ytggpomialmpgoaa.V
open Go Go.RowKit
set_option linter.unusedVariables false
set_option linter.unusedSimpArgs false
set_option maxRecDepth 100000

theorem closeT_opn (A : Ar) (zero : Bool) : (closeT A zero).1.opn = false := by
  unfold closeT
  split
  · rename_i h; simpa using h
  · rfl
theorem colT_opn (H : Hp) (ls : List Nat) : (colT H ls).A.opn = false := closeT_opn _ _
section
variable {w0 w : World} {a : Ad} {H : Hp} {s l : Sl} {rs ls : List Nat}
set_option maxHeartbeats 1000000 in
theorem collects_spec (h : Pq w0 w a H H s rs) (hl : Rd w 1 l (uv ls)) (hlo : 0 < l.n → ∀ q, l.a = some q → (q.block ≠ a.b1 ∧ q.block ≠ a.g1 ∧ q.block ≠ a.x) ∧ (q.block ≠ a.b2 ∧ q.block ≠ a.g2 ∧ q.block ≠ a.y) ∧ q.block < w.heap.size) (hlt : ∀ y ∈ ls, y < 18446744073709551616) (hm : ls.length ≤ 17592186043904) :
    Calls Try.prog 38 #[.pointer (some ⟨a.P, 0, none⟩), .slice l.a l.n l.c] w fun e w' =>
      e = .returned (.bool true) ∧ ∃ (H' : Hp) (s' : Sl) (rs' : List Nat), Pq w0 w' a H' H' s' rs' ∧ (rs'.length ≤ rs.length ∨ rs'.length ≤ ls.length) := by
  refine vc_38 _ _ _ _ ?_
  have hn := hl.lenu
  have lb1 := h.h1.lt; have lb2 := h.h2.lt; have lo := h.lo; have zz := h.xx.size
  simp only [eq_self, false_or, or_false, true_and, and_true, decide_eq_true_eq, decide_eq_false_iff_not, gd_st, gd_sf, exists_eq_left', exists_eq_left, Option.some.injEq, Sl.eta, Nat.reduceLeDiff, Int.reduceLE, Int.reduceLT, Int.reduceEq, Int.reduceNe, Nat.reduceMul, Nat.reduceAdd, Nat.reduceSub, Int.toNat_natCast, beq_iff_eq, bne_iff_ne, beq_eq_false_iff_ne, bne_eq_false_iff_eq, pick_and, pick_or, Bool.and_eq_true, Bool.or_eq_true, Bool.and_eq_false_iff, Bool.or_eq_false_iff, ne_eq, not_false_eq_true, Bool.not_eq_true', Bool.not_eq_false', reduceCtorEq, Nat.le_refl, Nat.zero_mul, Nat.mul_one, Nat.zero_add, Int.reduceToNat, ones, one, add_mk, Decidable.not_not, cond_true, cond_false, true_implies, false_implies, implies_true, Bool.not_true, Bool.not_false]
  intro w1 n1
  have z1 := n1.size
  have o1 : Own w1 w.heap.size 35 1 ⟨some ⟨w.heap.size, 0, none⟩, 0, 0⟩ (uv []) := Own.lit (z := 1) (n := 0) (cs := []) n1 (Nat.le_refl _) rfl (by decide)
  obtain ⟨sl, w2, hr2, hn2, o2, u2, c2⟩ := o1.append (t := 38) (ty := 38) tab_ok (by rfl) (by rfl) (by decide) (hl.ext n1.ext) (uv_ones _) (by dsimp only; omega) (by dsimp only; omega) (by omega)
  have x02 : Ext w w2 := n1.ext.fresh u2 (by rintro i ⟨q, hq, rfl⟩; exact (o1.base q hq).1)
  have z2 := x02.size
  have hsn : sl.n = ls.length := by rw [hn2]; dsimp only; omega
  have h2 := h.ext x02
  have o2 : Own w2 w.heap.size 35 1 sl (uv ls) := o2
  have b2 := o2.base
  refine ⟨sl, w2, hr2, _, h2.hd.cell 0, ⟨(collectH_spec h2.h1 h2.o1 o2.rd (fun q hq => by have := b2 q hq; omega) hlt (by omega)).mono ?_⟩⟩
  rintro e w3 (⟨hno, rfl, x3⟩ | ⟨hok, nb, rfl, g3, B3, hnb, u3⟩)
  · have h3 := h2.ext x3
    refine ⟨⟨none, 0, 0⟩, _, rfl, _, h3.hd.cell 1, ⟨(rcollectH_spec0 h3.h2 h3.o2 (hl.ext (x02.trans x3)) (fun hn q hq => by have := hlo hn q hq; omega) hlt (by omega)).mono ?_⟩⟩
    rintro e w4 (⟨_, rfl, x4⟩ | ⟨hok, _⟩)
    · have h4 := h3.ext x4
      refine ⟨⟨none, 0, 0⟩, _, rfl, fun _ => ⟨fun hne => absurd rfl hne, fun _ => ?_⟩, fun hne => absurd rfl hne⟩
      refine ⟨fun n w' => n = 0 ∧ w' = w4, fun _ _ => 0, ⟨rfl, rfl⟩, ?_⟩
      rintro _ n w5 ⟨rfl, rfl⟩
      exact ⟨fun hlt => absurd hlt (by decide), fun _ => ⟨fun hne => absurd rfl hne, fun _ => ⟨H, s, rs, h4, .inl (Nat.le_refl _)⟩⟩⟩
    · rw [hok] at hno; cases hno
  · have h3 := h2.up1 u3 g3 (colT_opn _ _)
    have z3 := u3.size
    have hVl : (collectT H.A ls H.zero).2.1.length = ls.length := visitsT_len _ _
    obtain ⟨VS, hVS⟩ : ∃ VS, VS = (collectT H.A ls H.zero).2.1 := ⟨_, rfl⟩
    rw [← hVS] at hVl B3
    refine ⟨⟨some ⟨nb, 0, none⟩, ls.length, ls.length⟩, _, rfl, _, h3.hd.cell 1, ⟨(rcollectH_spec0 h3.h2 h3.o2 ((hl.ext x02).upd0 u3 (fun hn q hq => by have := hlo hn q hq; exact nor3 this.1.1 this.1.2.1 this.1.2.2)) (fun hn q hq => by have := hlo hn q hq; omega) hlt (by omega)).mono ?_⟩⟩
    rintro e w4 (⟨hno, _⟩ | ⟨_, s4, rfl, g4, o4, u4⟩)
    · rw [hok] at hno; cases hno
    rw [← hVS] at o4
    have h4 := h3.up2 u4 g4 (colT_opn _ _) h3.fl
    have z4 := u4.size
    have hs4 : s4.n = ls.length := by rw [← hVl]; exact o4.rd.lenu.symm
    have hl4 : Rd w4 1 l (uv ls) := ((hl.ext x02).upd0 u3 (fun hn q hq => by have := hlo hn q hq; exact nor3 this.1.1 this.1.2.1 this.1.2.2)).upd0 u4 (fun hn q hq => by have := hlo hn q hq; exact nor3 this.2.1.1 this.2.1.2.1 this.2.1.2.2)
    have o24 : Own w4 w.heap.size 35 1 sl (uv ls) := (o2.upd u3 (fun q hq => by have := b2 q hq; exact nor3 (by omega) (by omega) (by omega))).upd u4 (fun q hq => by have := b2 q hq; exact nor3 (by omega) (by omega) (by omega))
    have B4 := B3.upd u4 (nor3 (by omega) (by omega) (by omega))
    obtain ⟨H', hH'⟩ : ∃ H', H' = colT H ls := ⟨_, rfl⟩
    rw [← hH'] at h4
    have hVlt : ∀ v ∈ VS, v < 18446744073709551616 := by
      rw [hVS]; exact visitsT_lt ls _ (openT_ok h.h1.ar.ok) hlt
    refine ⟨s4, _, rfl, fun _ => ⟨fun hne => absurd (by dsimp only; omega) hne, fun _ => ?_⟩, fun hne => absurd rfl hne⟩
    refine ⟨fun n w' => ∃ k : Nat, n = (k : Nat) ∧ k ≤ ls.length ∧ Ext w4 w', fun n _ => (ls.length - n).toNat, ⟨0, rfl, Nat.zero_le _, Ext.refl _⟩, ?_⟩
    rintro _ n w5 ⟨k, rfl, hk, x5⟩
    have ei : IntKind.i64.wrap ((k : Int) + 1) = ((k + 1 : Nat) : Int) := by rw [wrap_i64 (by omega) (by omega)]; omega
    rw [ei]
    have z5 := x5.size
    have h5 := h4.ext x5
    have o5 := o4.ext x5
    have B5 := B4.ext x5
    refine ⟨fun hlt => ?_, fun hge => ?_⟩
    · have hkl : k < ls.length := by have : ((k : Nat) : Int) < ((ls.length : Nat) : Int) := hlt; omega
      obtain ⟨p, y, hp, hy, hc⟩ := o5.rd.word k (by omega)
      obtain ⟨p1, y1, hp1, hy1, hc1⟩ := (o24.ext x5).rd.word k (by omega)
      obtain ⟨p2, y2, hp2, hy2, hc2⟩ := (hl4.ext x5).word k (by omega)
      rw [Nat.mul_one] at hc hc1 hc2
      have hbc : w5.cell? ((⟨nb, 0, none⟩ : Addr).add k) = some (.int .u64 (y : Nat)) := by
        rw [add_mk, B5.cell, Nat.zero_add, uv, List.getElem?_map, hy]; rfl
      refine ⟨by omega, hlt, _, rfl, _, by rw [Int.toNat_natCast]; exact hbc, by omega, by omega, p, hp, _, by rw [Int.toNat_natCast]; exact hc, fun _ => ⟨by omega, by omega, p1, hp1, _, by rw [Int.toNat_natCast]; exact hc1, by omega, by omega, p2, hp2, _, by rw [Int.toNat_natCast]; exact hc2, fun w6 q6 => ⟨fun hne => ?_, fun _ => ⟨⟨k + 1, rfl, by omega, x5.trans q6.ext⟩, by dsimp only; omega⟩⟩⟩, fun hne => absurd rfl hne⟩
      rw [hy1] at hy2; injection hy2 with hy2; subst hy2
      exact absurd rfl hne
    refine ⟨fun _ w6 n6 => ?_, fun _ => ⟨H', s, rs, h5, .inl (Nat.le_refl _)⟩⟩
    have z6 := n6.size
    have o6 : Own w6 w5.heap.size 35 1 ⟨some ⟨w5.heap.size, 0, none⟩, 0, 0⟩ (uv []) := Own.lit (z := 1) (n := 0) (cs := []) n6 (Nat.le_refl _) rfl (by decide)
    obtain ⟨s7, w7, hr7, hn7, o7, u7, c7⟩ := o6.append (t := 38) (ty := 38) tab_ok (by rfl) (by rfl) (by decide) (o5.rd.ext n6.ext) (uv_ones _) (by dsimp only; omega) (by dsimp only; omega) (by omega)
    have x57 : Ext w5 w7 := n6.ext.fresh u7 (by rintro i ⟨q, hq, rfl⟩; exact (o6.base q hq).1)
    have z7 := x57.size
    have o7 : Own w7 w5.heap.size 35 1 s7 (uv VS) := o7
    have b7 := o7.base
    have lB := B5.lt; have l5 := h5.h1.lt; have l5' := h5.h2.lt
    have z05 := h5.xx.size
    refine ⟨s7, w7, hr7, (h5.hd.ext x57).canSet 2 (by simp), fun w8 s8 => ?_⟩
    have h8 := h5.swap x57 (fun k hk => hk.elim) (.of_own (o7.mono (by omega))) hVlt (fun q hq => by have := b7 q hq; omega) s8
    have B8 := (B5.ext x57).upd s8.upd (B5.ne h5.hd (by decide))
    refine ⟨fun n w' => ∃ (k : Nat) (cs : List Value), n = (k : Nat) ∧ k ≤ ls.length ∧ cs.length = ls.length ∧ Blk w' nb 35 cs ∧ Pq w0 w' a H' H' s7 VS, fun n _ => (ls.length - n).toNat, ⟨0, _, rfl, Nat.zero_le _, by rw [uv_length]; exact hVl, B8, h8⟩, ?_⟩
    rintro _ n w9 ⟨j, cs, rfl, hj, hcl, B9, h9⟩
    have ei : IntKind.i64.wrap ((j : Int) + 1) = ((j + 1 : Nat) : Int) := by rw [wrap_i64 (by omega) (by omega)]; omega
    rw [ei]
    refine ⟨fun hlt => ?_, fun _ => ⟨H', s7, VS, h9, .inr (by omega)⟩⟩
    have hjl : j < ls.length := by have : ((j : Nat) : Int) < ((ls.length : Nat) : Int) := hlt; omega
    refine ⟨by omega, hlt, _, rfl, by rw [Int.toNat_natCast, add_mk, Nat.zero_add]; exact B9.canSet j (by omega), fun w10 s10 => ?_⟩
    rw [Int.toNat_natCast, add_mk, Nat.zero_add] at s10
    have u10 : Upd (fun i => i = nb) w9 w10 := s10.upd
    exact ⟨⟨j + 1, _, rfl, by omega, by rw [List.length_set]; exact hcl, s10.blk1 B9, h9.upd u10 B9 (fun k hk => hk) (by omega) (by omega) (fun q hq => by have := b7 q hq; omega) (by omega)⟩, by dsimp only; omega⟩
end
end Go.Proofs.Ytggpomialmpgoaa.V
