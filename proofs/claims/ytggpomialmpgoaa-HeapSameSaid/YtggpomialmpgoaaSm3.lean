/-
  Law HeapSame: the walk.
-/
import Derived.Test.YtggpomialmpgoaaSm2
namespace Go.Proofs.Ytggpomialmpgoaa.V
open Go Go.RowKit
set_option linter.unusedVariables false
set_option linter.unusedSimpArgs false
set_option maxRecDepth 100000

theorem list_of {α : Type} {P : Nat → α → Prop} : ∀ n : Nat, (∀ i, i < n → ∃ t, P i t) → ∃ ts : List α, ts.length = n ∧ ∀ (i : Nat) (t : α), ts[i]? = some t → P i t
  | 0, _ => ⟨[], rfl, fun i t h => (by cases h)⟩
  | n + 1, h => by
    obtain ⟨ts, hl, hp⟩ := list_of n fun i hi => h i (by omega)
    obtain ⟨t, ht⟩ := h n (by omega)
    refine ⟨ts ++ [t], by rw [List.length_append, hl]; rfl, fun i u hu => ?_⟩
    rcases Nat.lt_or_ge i n with hi | hi
    · rw [List.getElem?_append_left (by omega)] at hu
      exact hp i u hu
    · have := (List.getElem?_eq_some_iff.1 hu).1
      rw [List.length_append, List.length_singleton] at this
      have hi' : i = n := by omega
      rw [List.getElem?_append_right (by omega), hi', hl, Nat.sub_self] at hu
      injection hu with hu; subst hu; rw [hi']; exact ht
structure NdAt (W0 : World) (s : Sl) (i : Nat) (t : Nd) : Prop where
  ex : ∃ (p : Addr) (m : Sl), s.a = some p ∧ t.n < 18446744073709551616 ∧ (∀ y ∈ t.ns, -9223372036854775808 ≤ y ∧ y ≤ 9223372036854775807) ∧ (-9223372036854775808 ≤ t.pl ∧ t.pl ≤ 9223372036854775807) ∧
    ∀ w', Ext W0 w' → (w'.cell? ((p.add (i * 3)).add 0) = some (.int .u64 (t.n : Nat)) ∧ w'.cell? ((p.add (i * 3)).add 1) = some (.slice m.a m.n m.c) ∧ w'.cell? ((p.add (i * 3)).add 2) = some (.int .i64 t.pl)) ∧ Rd w' 1 m (iv t.ns)
structure NdsIs (W0 : World) (s : Sl) (l : List Nd) : Prop where
  n : l.length = s.n
  at_ : ∀ (i : Nat) (t : Nd), l[i]? = some t → NdAt W0 s i t
theorem NdsIs.cut {W : World} {s : Sl} {l : List Nd} (h : NdsIs W s l) {k : Nat} (hk : k ≤ s.n) : NdsIs W ⟨if s.c = 0 then s.a else Option.map (fun x : Addr => x.add 0) s.a, k, s.c⟩ (l.take k) := by
  rw [cut0]
  refine ⟨by rw [List.length_take, h.n]; exact Nat.min_eq_left hk, fun i t ht => ?_⟩
  rw [List.getElem?_take] at ht
  split at ht
  · obtain ⟨p, m, r⟩ := (h.at_ i t ht).ex
    exact ⟨p, m, r⟩
  · cases ht
abbrev NdR : Rw := .cons (.int .u64) (.cons (.sl 8 (.cons (.int .i64) .nil)) (.cons (.int .i64) .nil))
theorem nds_is {w : World} {v : Value} {x : (Dt.sl 40 NdR).T} (h : (Dt.sl 40 NdR).Is w v x) : v = .slice x.1.a x.1.n x.1.c ∧ x.1.n ≤ x.1.c ∧ x.1.n ≤ 4000000000000000 ∧ ∃ l, NdsIs w x.1 l := by
  have h' := h
  unfold Dt.Is at h'
  obtain ⟨h1, h2, h3, h4, h5, h6, h7⟩ := h'
  rw [reach_eq] at h5
  refine ⟨h1, h3, by omega, ?_⟩
  obtain ⟨ts, hl, hp⟩ := list_of (P := fun i (t : Nd) => NdAt w x.1 i t) x.1.n (fun i hi => by
    obtain ⟨y, hy⟩ : ∃ y, x.2[i]? = some y := ⟨_, List.getElem?_eq_getElem (by omega)⟩
    obtain ⟨p, vs, hp, ha, hl, hi'⟩ := h7 i y hy
    simp only [Rw.Is] at hi'
    obtain ⟨_, _, rfl, i0, _, _, rfl, i1, _, _, rfl, i2, rfl⟩ := hi'
    obtain ⟨rfl, j0⟩ : _ = _ ∧ _ := by simpa only [Dt.Is] using i0
    obtain ⟨rfl, d1, d2, d3, ns, d4, d5⟩ := is_ints i1
    obtain ⟨rfl, j2⟩ : _ = _ ∧ _ := by simpa only [Dt.Is] using i2
    have k0 := wf_u64 j0
    refine ⟨⟨y.1.toNat, ns, y.2.2.1⟩, p, y.2.1.1, hp, by dsimp only; omega, d5, wf_i64 j2, fun w' u => ⟨?_, d4.ext u⟩⟩
    have ha := ha.upd u not_false
    rw [show ((y.1.toNat : Nat) : Int) = y.1 by omega]
    exact ⟨ha 0 _ rfl, ha 1 _ rfl, ha 2 _ rfl⟩)
  exact ⟨ts, hl, hp⟩
theorem min4 (n : Nat) : (if 4 < (n : Int) then (4 : Int) else (n : Int)) = ((min n 4 : Nat) : Int) := by split <;> omega
/-- the cells of an object that is made, as far as they are there -/
def csN (l : List Nd) (i : Nat) (p : Nat → Nat) (k : Nat) : List Nat := (List.range (k + 1)).map fun a => if a = 0 then (ndAt l i).n else rv p (nmN l i a)
theorem csN_len (l : List Nd) (i : Nat) (p : Nat → Nat) (k : Nat) : (csN l i p k).length = k + 1 := by simp [csN]
theorem csN_zero (l : List Nd) (i : Nat) (p : Nat → Nat) : csN l i p 0 = [(ndAt l i).n] := rfl
theorem csN_succ (l : List Nd) (i : Nat) (p : Nat → Nat) (k : Nat) : csN l i p (k + 1) = csN l i p k ++ [rv p (nmN l i (k + 1))] := by
  unfold csN
  rw [List.range_succ, List.map_append, List.map_cons, List.map_nil, if_neg (by omega)]
theorem csN_at {l : List Nd} {i k a : Nat} {p : Nat → Nat} (ha : a < k + 1) : (csN l i p k)[a]? = some (cellV 0 (fun m => p m + 1) (tN l i) a) := by
  unfold csN
  rw [List.getElem?_map, List.getElem?_range ha, cellN]; rfl
theorem slot_at {l : List Nd} {i : Nat} {p : Nat → Nat} {j : Nat} (hj : j < 5) : ((slT l i).map (rv p))[j]? = some (rv p ((slT l i).getD j none)) := by
  have hl := slT_len l i
  rw [List.getElem?_map, List.getD_eq_getElem?_getD, List.getElem?_eq_getElem (by omega)]; rfl
theorem slot_mem {l : List Nd} {i j : Nat} (hj : j < 5) : (slT l i).getD j none ∈ slT l i := by
  have hl := slT_len l i
  rw [List.getD_eq_getElem?_getD, List.getElem?_eq_getElem (by omega)]; exact List.getElem_mem _
theorem nm_slot (l : List Nd) (i jj : Nat) : nmN l i (jj + 1) = (slT l i).getD (pk5 ((ndAt l i).ns.getD jj 0)) none := by
  unfold nmN
  rw [if_pos (by omega), Nat.add_sub_cancel]
theorem slots_next {l : List Nd} {i : Nat} {p p' : Nat → Nat} (h : ∀ o ∈ slT l i, rv p' o = rv p o) : ((slT l i).map (rv p)).set (pk5 (ndAt l i).pl) (p' i + 1) = (slT l (i + 1)).map (rv p') := by
  show _ = ((slT l i).set (pk5 (ndAt l i).pl) (some i)).map (rv p')
  rw [List.map_set]
  congr 1
  exact List.map_congr_left fun o ho => (h o ho).symm
theorem rv_agree {p p' : Nat → Nat} {order : List Nat} (h : ∀ j ∈ order, p' j = p j) {o : Option Nat} (ho : ∀ j, o = some j → j ∈ order) : rv p' o = rv p o := by
  cases o with
  | none => rfl
  | some j => show p' j + 1 = p j + 1; rw [h j (ho j rfl)]
end Go.Proofs.Ytggpomialmpgoaa.V
