/-
  Law FlowTurned.
-/
import Derived.Test.YtilaeefmfiihlaaFn
namespace Go.Proofs.Ytilaeefmfiihlaa.V
open Go Go.RowKit
set_option linter.unusedVariables false
set_option linter.unusedSimpArgs false
set_option linter.unusedSectionVars false
set_option maxRecDepth 100000

theorem ix_wrap {k M y : Nat} (hk : k < M) (hM : M ≤ 40) (hy : y < M) : IntKind.i64.wrap (IntKind.i64.wrap ((k : Int) * (M : Int)) + (y : Int)) = ((k * M + y : Nat) : Int) ∧ k * M + y < M * M := by
  have h1 : (k + 1) * M ≤ M * M := Nat.mul_le_mul_right M hk
  rw [Nat.succ_mul] at h1
  have h2 : M * M ≤ 40 * 40 := Nat.mul_le_mul hM hM
  rw [← Int.natCast_mul]
  generalize k * M = q at *
  generalize M * M = r at *
  have hq : IntKind.i64.wrap (q : Int) = (q : Int) := wrap_i64 (by omega) (by omega)
  rw [hq, wrap_i64 (by omega) (by omega)]
  omega
theorem ix_inj {k M y r s : Nat} (hy : y < M) (hs : s < M) (h : r * M + s = k * M + y) : r = k ∧ s = y := by
  rcases Nat.lt_trichotomy r k with hl | rfl | hl
  · have h1 : (r + 1) * M ≤ k * M := Nat.mul_le_mul_right M hl
    rw [Nat.succ_mul] at h1
    omega
  · exact ⟨rfl, by omega⟩
  · have h1 : (k + 1) * M ≤ r * M := Nat.mul_le_mul_right M hl
    rw [Nat.succ_mul] at h1
    omega
theorem not_mem_take {l : List Nat} (hs : l.Pairwise (· < ·)) {i y : Nat} (h : l[i]? = some y) : y ∉ l.take i := by
  intro hm
  obtain ⟨j, hj⟩ := List.getElem?_of_mem hm
  rw [List.getElem?_take] at hj
  split at hj
  · rename_i hlt
    obtain ⟨h1, h2⟩ := List.getElem?_eq_some_iff.1 hj
    obtain ⟨h3, h4⟩ := List.getElem?_eq_some_iff.1 h
    have := List.pairwise_iff_getElem.1 hs j i h1 h3 hlt
    omega
  · cases hj
theorem frT_sorted (c : List Ins) (i : Nat) : (frT c i).Pairwise (· < ·) := List.Pairwise.filter _ List.pairwise_lt_range
theorem fromT_le' (c : List Ins) (k : Nat) : (frT c k).length ≤ c.length := by
  have := List.length_filter_le (fun i => decide (k ∈ nxT c i)) (List.range c.length)
  rw [List.length_range] at this
  exact this
/-- what is counted there, behind k whole ones and parts of the lists of the one behind them -/
def pT (c : List Ins) (k : Nat) (l1 l2 : List Nat) (r s : Nat) : Int := (if s ∈ nxT c r ∧ r < k ∨ r = k ∧ s ∈ l1 then 1 else 0) - (if s ∈ nxT c r ∧ s < k ∨ s = k ∧ r ∈ l2 then 1 else 0)
section
variable {c : List Ins} {k r s i y : Nat} {l1 l2 : List Nat}
theorem pT_bound (c : List Ins) (k : Nat) (l1 l2 : List Nat) (r s : Nat) : -1 ≤ pT c k l1 l2 r s ∧ pT c k l1 l2 r s ≤ 1 := by
  unfold pT
  split <;> split <;> omega
theorem pT_zero : pT c 0 [] [] r s = 0 := by
  unfold pT
  rw [if_neg (by simp), if_neg (by simp)]; rfl
theorem pT_end (hr : r < c.length) (hs : s < c.length) : pT c c.length [] [] r s = 0 := by
  unfold pT
  by_cases h : s ∈ nxT c r
  · rw [if_pos (.inl ⟨h, hr⟩), if_pos (.inl ⟨h, hs⟩)]; rfl
  · rw [if_neg (by simp [h]), if_neg (by simp [h])]; rfl
theorem pT_next (hr : r < c.length) : pT c k (nxT c k) (frT c k) r s = pT c (k + 1) [] [] r s := by
  unfold pT
  have e1 : (s ∈ nxT c r ∧ r < k ∨ r = k ∧ s ∈ nxT c k) ↔ (s ∈ nxT c r ∧ r < k + 1 ∨ r = k + 1 ∧ s ∈ ([] : List Nat)) := by
    constructor
    · rintro (⟨h1, h2⟩ | ⟨rfl, h⟩)
      · exact .inl ⟨h1, by omega⟩
      · exact .inl ⟨h, by omega⟩
    · rintro (⟨h1, h2⟩ | ⟨_, h⟩)
      · rcases Nat.lt_or_ge r k with h3 | h3
        · exact .inl ⟨h1, h3⟩
        · have : r = k := by omega
          subst this; exact .inr ⟨rfl, h1⟩
      · cases h
  have e2 : (s ∈ nxT c r ∧ s < k ∨ s = k ∧ r ∈ frT c k) ↔ (s ∈ nxT c r ∧ s < k + 1 ∨ s = k + 1 ∧ r ∈ ([] : List Nat)) := by
    constructor
    · rintro (⟨h1, h2⟩ | ⟨rfl, h⟩)
      · exact .inl ⟨h1, by omega⟩
      · exact .inl ⟨(frT_mem.1 h).2, by omega⟩
    · rintro (⟨h1, h2⟩ | ⟨_, h⟩)
      · rcases Nat.lt_or_ge s k with h3 | h3
        · exact .inl ⟨h1, h3⟩
        · have : s = k := by omega
          subst this; exact .inr ⟨rfl, frT_mem.2 ⟨hr, h1⟩⟩
      · cases h
  simp only [e1, e2]
theorem pT_up (h : (nxT c k)[i]? = some y) : pT c k ((nxT c k).take (i + 1)) l2 r s = pT c k ((nxT c k).take i) l2 r s + if r = k ∧ s = y then 1 else 0 := by
  unfold pT
  have hn := not_mem_take (nxT_sorted c k) h
  rw [take_snoc h]
  by_cases e : r = k ∧ s = y
  · obtain ⟨rfl, rfl⟩ := e
    rw [if_pos (.inr ⟨rfl, by simp⟩), if_neg (c := s ∈ nxT c r ∧ r < r ∨ r = r ∧ s ∈ List.take i (nxT c r)) (by rintro (⟨_, h⟩ | ⟨_, h⟩); exact absurd h (Nat.lt_irrefl _); exact hn h), if_pos (c := r = r ∧ s = s) ⟨rfl, rfl⟩]
    omega
  · have e1 : (s ∈ nxT c r ∧ r < k ∨ r = k ∧ s ∈ (nxT c k).take i ++ [y]) ↔ (s ∈ nxT c r ∧ r < k ∨ r = k ∧ s ∈ (nxT c k).take i) := by
      refine or_congr_right (and_congr_right fun hr => ?_)
      rw [List.mem_append, List.mem_singleton]
      exact ⟨fun hh => hh.elim id fun hy => absurd ⟨hr, hy⟩ e, .inl⟩
    simp only [e1, if_neg e]
    omega
theorem pT_down (h : (frT c k)[i]? = some y) : pT c k l1 ((frT c k).take (i + 1)) r s = pT c k l1 ((frT c k).take i) r s - if r = y ∧ s = k then 1 else 0 := by
  unfold pT
  have hn := not_mem_take (frT_sorted c k) h
  rw [take_snoc h]
  by_cases e : r = y ∧ s = k
  · obtain ⟨rfl, rfl⟩ := e
    rw [if_pos (c := s ∈ nxT c r ∧ s < s ∨ s = s ∧ r ∈ List.take i (frT c s) ++ [r]) (.inr ⟨rfl, by simp⟩), if_neg (c := s ∈ nxT c r ∧ s < s ∨ s = s ∧ r ∈ List.take i (frT c s)) (by rintro (⟨_, h⟩ | ⟨_, h⟩); exact absurd h (Nat.lt_irrefl _); exact hn h), if_pos (c := r = r ∧ s = s) ⟨rfl, rfl⟩]
    omega
  · have e1 : (s ∈ nxT c r ∧ s < k ∨ s = k ∧ r ∈ (frT c k).take i ++ [y]) ↔ (s ∈ nxT c r ∧ s < k ∨ s = k ∧ r ∈ (frT c k).take i) := by
      refine or_congr_right (and_congr_right fun hr => ?_)
      rw [List.mem_append, List.mem_singleton]
      exact ⟨fun hh => hh.elim id fun hy => absurd ⟨hy, hr⟩ e, .inl⟩
    simp only [e1, if_neg e]
    omega
end
/-- the counts in memory -/
def TH (w : World) (W : Nat) (c : List Ins) (f : Nat → Nat → Int) : Prop := ∃ L : List Int, Blk w W 3 (iv L) ∧ L.length = c.length * c.length ∧ ∀ r s, r < c.length → s < c.length → L[r * c.length + s]? = some (f r s)
section
variable {w w' : World} {W i : Nat} {c : List Ins} {f f' : Nat → Nat → Int} {r s : Nat} {v : Int}
theorem TH.ext (h : TH w W c f) (u : Ext w w') : TH w' W c f := by
  obtain ⟨L, h1, h2, h3⟩ := h; exact ⟨L, h1.ext u, h2, h3⟩
theorem TH.congr (h : TH w W c f) (e : ∀ r s, r < c.length → s < c.length → f r s = f' r s) : TH w W c f' := by
  obtain ⟨L, h1, h2, h3⟩ := h; exact ⟨L, h1, h2, fun r s hr hs => by rw [h3 r s hr hs, e r s hr hs]⟩
theorem TH.get (h : TH w W c f) (hr : r < c.length) (hs : s < c.length) : w.cell? ⟨W, r * c.length + s, none⟩ = some (.int .i64 (f r s)) := by
  obtain ⟨L, h1, h2, h3⟩ := h
  rw [h1.cell]; unfold iv; rw [List.getElem?_map, h3 r s hr hs]; rfl
theorem TH.can (h : TH w W c f) (hi : i < c.length * c.length) : CanSet w ⟨W, i, none⟩ 1 := by
  obtain ⟨L, h1, h2, h3⟩ := h
  exact h1.canSet _ (by unfold iv; rw [List.length_map]; omega)
theorem TH.set (h : TH w W c f) (hr : r < c.length) (hs : s < c.length) (hst : SetW w ⟨W, r * c.length + s, none⟩ [.int .i64 v] w') (e : ∀ r' s', f' r' s' = if r' = r ∧ s' = s then v else f r' s') : TH w' W c f' := by
  obtain ⟨L, h1, h2, h3⟩ := h
  have hin : r * c.length + s < c.length * c.length := by
    have h1 : (r + 1) * c.length ≤ c.length * c.length := Nat.mul_le_mul_right _ hr
    rw [Nat.succ_mul] at h1; omega
  refine ⟨L.set (r * c.length + s) v, ?_, by rw [List.length_set]; exact h2, fun r' s' hr' hs' => ?_⟩
  · have := hst.blk1 h1
    have e1 : iv (L.set (r * c.length + s) v) = (iv L).set (r * c.length + s) (.int .i64 v) := by unfold iv; rw [List.map_set]
    rw [e1]; exact this
  · rw [List.getElem?_set, e]
    by_cases hh : r' = r ∧ s' = s
    · obtain ⟨rfl, rfl⟩ := hh
      rw [if_pos rfl, if_pos (by omega), if_pos ⟨rfl, rfl⟩]
    · rw [if_neg (fun he => hh (by have := ix_inj hs hs' he.symm; exact this)), if_neg hh, h3 r' s' hr' hs']
end
set_option maxHeartbeats 1000000 in
theorem flowturned_walk (w : World) (v0 : Value) (x0 : (Par.one (.sl 24 InsR)).T) (h0 : (Par.one (.sl 24 InsR)).Is w v0 x0) :
    Calls Try.prog 9 #[v0] w fun e w' => e = .returned (.bool true) ∧ Ext w w' := by
  obtain ⟨rfl, hcap, c0, hc⟩ := is_code h0
  obtain ⟨code, ls⟩ := x0
  dsimp only at *
  refine vc_9 code _ _ ?_
  simp only [eq_self, false_or, or_false, true_and, and_true, decide_eq_true_eq, decide_eq_false_iff_not, gd_st, gd_sf, exists_eq_left', exists_eq_left, Option.some.injEq, Sl.eta, Nat.reduceLeDiff, Int.reduceLE, Int.reduceLT, Int.reduceEq, Int.reduceNe, Nat.reduceMul, Nat.reduceAdd, Nat.reduceSub, Int.toNat_natCast, beq_iff_eq, bne_iff_ne, beq_eq_false_iff_ne, bne_eq_false_iff_eq, pick_and, pick_or, Bool.and_eq_true, Bool.or_eq_true, Bool.and_eq_false_iff, Bool.or_eq_false_iff, ne_eq, not_false_eq_true, Bool.not_eq_true', Bool.not_eq_false', reduceCtorEq, Nat.le_refl, Nat.zero_mul, Nat.mul_one, Nat.zero_add, Int.reduceToNat, ones, one, add_mk, Decidable.not_not, cond_true, cond_false, true_implies, false_implies, implies_true, Bool.not_true, Bool.not_false]
  refine ⟨(shown_spec w).mono ?_⟩
  rintro e w1 ⟨rfl, x1⟩
  refine ⟨_, rfl, ⟨(cut_spec (hc.ext x1) hcap).mono ?_⟩⟩
  rintro e w2 ⟨s, rfl, hs, hscap, hsa, rfl⟩
  obtain ⟨c, rfl⟩ : ∃ c, c = c0.take 40 := ⟨_, rfl⟩
  have hm : (c0.take 40).length ≤ 40 := by rw [List.length_take]; omega
  generalize c0.take 40 = c at *
  have hsn := hs.lenc
  have hMM : c.length * c.length ≤ 40 * 40 := Nat.mul_le_mul hm hm
  have eM : IntKind.i64.wrap ((s.n : Int) * (s.n : Int)) = ((c.length * c.length : Nat) : Int) := by
    rw [hsn, ← Int.natCast_mul]
    generalize c.length * c.length = q at *
    rw [wrap_i64 (by omega) (by omega)]
  obtain ⟨MM, hMMe⟩ : ∃ MM, MM = c.length * c.length := ⟨_, rfl⟩
  refine ⟨s, rfl, ?_⟩
  rw [eM, ← hMMe]
  rw [← hMMe] at hMM
  simp only [Int.toNat_natCast]
  refine ⟨(new_spec hs (by omega)).mono ?_⟩
  rintro e w3 ⟨g, rfl, G3, x3⟩
  have x03 := x1.trans x3
  refine ⟨_, rfl, fun _ => ⟨fun h => (by cases h), fun _ => ⟨⟨by omega, by omega, by omega, by omega⟩, fun w4 n4 => ?_⟩⟩, fun h => (by cases h)⟩
  have T4 : TH w4 w3.heap.size c (pT c 0 [] []) := by
    have k4 := Blk.new n4
    rw [zrow_one] at k4
    refine ⟨List.replicate MM 0, by unfold iv; rw [List.map_replicate]; exact k4, by rw [List.length_replicate]; exact hMMe, fun r s hr hs => ?_⟩
    have h1 : (r + 1) * c.length ≤ c.length * c.length := Nat.mul_le_mul_right _ hr
    rw [Nat.succ_mul] at h1
    rw [List.getElem?_replicate, if_pos (by omega), pT_zero]
  have fr : ∀ {w' w'' : World} {o : Nat} {l : List Value}, Ext w3 w' → SetW w' ⟨w3.heap.size, o, none⟩ l w'' → Ext w3 w'' := fun {w' w'' o l} x st => x.fresh st.upd (by rintro k rfl; exact Nat.le_refl _)
  refine ⟨fun n w' => ∃ k : Nat, n = (k : Nat) ∧ k ≤ c.length ∧ TH w' w3.heap.size c (pT c k [] []) ∧ Ext w3 w', fun n _ => (c.length - n).toNat, ⟨0, rfl, Nat.zero_le _, T4, n4.ext⟩, ?_⟩
  rintro _ n w5 ⟨k, rfl, hk, T5, x5⟩
  have ek : IntKind.i64.wrap ((k : Int) + 1) = ((k + 1 : Nat) : Int) := by rw [wrap_i64 (by omega) (by omega)]; omega
  rw [ek]
  refine ⟨fun hlt => ?_, fun hge => ?_⟩
  rotate_left
  · -- all are none
    have hkc : k = c.length := by omega
    subst hkc
    refine ⟨fun n w' => ∃ i : Nat, n = (i : Nat) ∧ i ≤ MM ∧ Ext w5 w', fun n _ => (MM - n).toNat, ⟨0, rfl, Nat.zero_le _, Ext.refl _⟩, ?_⟩
    rintro _ n w6 ⟨i, rfl, hi, x6⟩
    have ei : IntKind.i64.wrap ((i : Int) + 1) = ((i + 1 : Nat) : Int) := by rw [wrap_i64 (by omega) (by omega)]; omega
    rw [ei]
    simp only [Int.toNat_natCast]
    refine ⟨fun hlt6 => ?_, fun _ => x03.trans (x5.trans x6)⟩
    have hc0 : 0 < c.length := by
      refine Nat.pos_of_ne_zero fun h0 => ?_
      rw [h0] at hMMe; omega
    have hr : i / c.length < c.length := Nat.div_lt_of_lt_mul (by omega)
    have hs' : i % c.length < c.length := Nat.mod_lt _ hc0
    have hi' : i / c.length * c.length + i % c.length = i := by rw [Nat.mul_comm]; exact Nat.div_add_mod _ _
    have hg := (T5.ext x6).get hr hs'
    rw [hi', pT_end hr hs'] at hg
    exact ⟨by omega, by omega, 0, hg, fun hne => absurd rfl hne, fun _ => ⟨⟨i + 1, rfl, by omega, x6⟩, by omega⟩⟩
  have hkc : k < c.length := by omega
  refine ⟨(next_spec (hs.ext (x3.trans x5)) (by omega) (k : Nat)).mono ?_⟩
  rintro e w6 ⟨s6, rfl, o6, x6⟩
  rw [nextT_nat hkc] at o6
  have h6n := o6.rd.leni
  rw [castL_len] at h6n
  have l2 := nxT_le2 c k
  refine ⟨s6, rfl, fun n w' => ∃ i : Nat, n = (i : Nat) ∧ i ≤ s6.n ∧ TH w' w3.heap.size c (pT c k ((nxT c k).take i) []) ∧ Own w' w5.heap.size 3 1 s6 (iv (castL (nxT c k))) ∧ Ext w3 w', fun n _ => (s6.n - n).toNat,
    ⟨0, rfl, Nat.zero_le _, T5.ext x6, o6, x5.trans x6⟩, ?_⟩
  rintro _ n w7 ⟨i, rfl, hi, T7, o7, x7⟩
  have ei : IntKind.i64.wrap ((i : Int) + 1) = ((i + 1 : Nat) : Int) := by rw [wrap_i64 (by omega) (by omega)]; omega
  have ei1 : 0 < i → IntKind.i64.wrap ((i : Int) - 1) = ((i - 1 : Nat) : Int) := fun h => by rw [wrap_i64 (by omega) (by omega)]; omega
  rw [ei]
  have z5 : w3.heap.size < w5.heap.size := by
    obtain ⟨L, hL, _⟩ := T5
    exact hL.lt
  refine ⟨fun hlt7 => ?_, fun hge7 => ?_⟩
  · obtain ⟨p, hp, hcp⟩ := o7.rd.2 (by omega)
    obtain ⟨y, hy⟩ : ∃ y, (nxT c k)[i]? = some y := ⟨_, List.getElem?_eq_getElem (by omega)⟩
    have hym := mem_nxT.1 (List.mem_of_getElem? hy)
    have at_ : ∀ {j z : Nat}, (nxT c k)[j]? = some z → w7.cell? (p.add j) = some (.int .i64 (z : Nat)) := fun {j z} hz => hcp j _ (by unfold iv castL; rw [List.getElem?_map, List.getElem?_map, hz]; rfl)
    have hyc := at_ hy
    have hB : ∀ {w8 : World}, Qt w7 w8 → (fun w' => Ext w7 w') w8 := fun {w8} q => q.ext
    refine ⟨fun w' => Ext w7 w', ⟨by omega, by omega, p, hp, _, by rw [Int.toNat_natCast]; exact hyc, fun _ => ⟨by omega, by omega, p, hp, _, by rw [Int.toNat_natCast]; exact hyc, fun _ => ⟨fun hpos => ?_, fun _ w8 q8 => q8.ext⟩, fun hh => absurd hh (by omega)⟩, fun hh => absurd hh (by omega)⟩, ?_⟩
    · rw [ei1 (by omega)]
      obtain ⟨z, hz⟩ : ∃ z, (nxT c k)[i - 1]? = some z := ⟨_, List.getElem?_eq_getElem (by omega)⟩
      have hlt : z < y := by
        obtain ⟨a1, a2⟩ := List.getElem?_eq_some_iff.1 hz
        obtain ⟨b1, b2⟩ := List.getElem?_eq_some_iff.1 hy
        have := List.pairwise_iff_getElem.1 (nxT_sorted c k) (i - 1) i a1 b1 (by omega)
        omega
      exact ⟨by omega, by omega, p, hp, _, by rw [Int.toNat_natCast]; exact hyc, by omega, by omega, p, hp, _, by rw [Int.toNat_natCast]; exact at_ hz, fun w8 q8 => ⟨fun hh => absurd hh (by omega), fun _ => q8.ext⟩⟩
    rintro _ w8 x8
    obtain ⟨ix1, ix2⟩ := ix_wrap hkc hm hym.1
    have ix1' : IntKind.i64.wrap (IntKind.i64.wrap ((k : Int) * (s.n : Int)) + (y : Int)) = ((k * c.length + y : Nat) : Int) := by rw [hsn]; exact ix1
    have T8 := T7.ext x8
    have pb := pT_bound c k ((nxT c k).take i) [] k y
    refine ⟨by omega, by omega, p, hp, _, by rw [Int.toNat_natCast]; exact x8.cell hyc id, ?_⟩
    rw [ix1']
    simp only [Int.toNat_natCast]
    refine ⟨by omega, by omega, _, T8.get hkc hym.1, by omega, by omega, T8.can ix2, fun w9 s9 => ?_⟩
    rw [wrap_i64 (by omega) (by omega)] at s9
    have T9 := T8.set (f' := pT c k ((nxT c k).take (i + 1)) []) hkc hym.1 s9 fun r' s' => by
      rw [pT_up hy]
      by_cases e : r' = k ∧ s' = y
      · obtain ⟨rfl, rfl⟩ := e; rw [if_pos ⟨rfl, rfl⟩, if_pos ⟨rfl, rfl⟩]
      · rw [if_neg e, if_neg e]; omega
    refine ⟨⟨i + 1, rfl, by omega, T9, (o7.ext x8).upd s9.upd fun q hq e => ?_, fr (x7.trans x8) s9⟩, by omega⟩
    dsimp only at e
    have := (o7.base q hq).1
    omega
  · have hi6 : i = (nxT c k).length := by omega
    rw [hi6, List.take_length] at T7
    refine ⟨(from_spec (G3.ext x7) (by omega) (k : Nat)).mono ?_⟩
    rintro e w8 ⟨s8, rfl, o8, x8⟩
    have hfT : fromT c (k : Nat) = castL (frT c k) := by unfold fromT; rw [if_pos ⟨by omega, by omega⟩, Int.toNat_natCast]
    rw [hfT] at o8
    have h8n := o8.rd.leni
    rw [castL_len] at h8n
    have hfl := fromT_le' c k
    have z7 : w3.heap.size < w7.heap.size := by
      obtain ⟨L, hL, _⟩ := T7
      exact hL.lt
    refine ⟨s8, rfl, fun n w' => ∃ j : Nat, n = (j : Nat) ∧ j ≤ s8.n ∧ TH w' w3.heap.size c (pT c k (nxT c k) ((frT c k).take j)) ∧ Own w' w7.heap.size 3 1 s8 (iv (castL (frT c k))) ∧ Ext w3 w', fun n _ => (s8.n - n).toNat,
      ⟨0, rfl, Nat.zero_le _, T7.ext x8, o8, x7.trans x8⟩, ?_⟩
    rintro _ n w9 ⟨j, rfl, hj, T9, o9, x9⟩
    have ej : IntKind.i64.wrap ((j : Int) + 1) = ((j + 1 : Nat) : Int) := by rw [wrap_i64 (by omega) (by omega)]; omega
    rw [ej]
    refine ⟨fun hlt9 => ?_, fun hge9 => ?_⟩
    · obtain ⟨p, hp, hcp⟩ := o9.rd.2 (by omega)
      obtain ⟨y, hy⟩ : ∃ y, (frT c k)[j]? = some y := ⟨_, List.getElem?_eq_getElem (by omega)⟩
      have hym := frT_mem.1 (List.mem_of_getElem? hy)
      have hyc := hcp j (.int .i64 (y : Nat)) (by unfold iv castL; rw [List.getElem?_map, List.getElem?_map, hy]; rfl)
      obtain ⟨ix1, ix2⟩ := ix_wrap hym.1 hm hkc
      have ix1' : IntKind.i64.wrap (IntKind.i64.wrap ((y : Int) * (s.n : Int)) + (k : Int)) = ((y * c.length + k : Nat) : Int) := by rw [hsn]; exact ix1
      have pb := pT_bound c k (nxT c k) ((frT c k).take j) y k
      refine ⟨by omega, by omega, p, hp, _, by rw [Int.toNat_natCast]; exact hyc, fun _ => ⟨by omega, by omega, p, hp, _, by rw [Int.toNat_natCast]; exact hyc, fun hh => absurd hh (by omega), fun _ => ⟨by omega, by omega, p, hp, _, by rw [Int.toNat_natCast]; exact hyc, ?_⟩⟩, fun hh => absurd hh (by omega)⟩
      rw [ix1']
      simp only [Int.toNat_natCast]
      refine ⟨by omega, by omega, _, T9.get hym.1 hkc, by omega, by omega, T9.can ix2, fun w10 s10 => ?_⟩
      rw [wrap_i64 (by omega) (by omega)] at s10
      have T10 := T9.set (f' := pT c k (nxT c k) ((frT c k).take (j + 1))) hym.1 hkc s10 fun r' s' => by
        rw [pT_down hy]
        by_cases e : r' = y ∧ s' = k
        · obtain ⟨rfl, rfl⟩ := e; rw [if_pos ⟨rfl, rfl⟩, if_pos ⟨rfl, rfl⟩]
        · rw [if_neg e, if_neg e]; omega
      refine ⟨⟨j + 1, rfl, by omega, T10, o9.upd s10.upd fun q hq e => ?_, fr x9 s10⟩, by omega⟩
      dsimp only at e
      have := (o9.base q hq).1
      omega
    · have hj8 : j = (frT c k).length := by omega
      rw [hj8, List.take_length] at T9
      exact ⟨⟨k + 1, rfl, by omega, T9.congr fun r s hr _ => pT_next hr, x9⟩, by dsimp only; omega⟩
end Go.Proofs.Ytilaeefmfiihlaa.V
