/-
  What is read of objects that are laid; things out of a call's arguments.
-/
import Derived.Test.YtcmmdaginkhomaaLa4
import Derived.Test.YtcmmdaginkhomaaVcD
import Derived.Test.YtcmmdaginkhomaaRow
namespace Go.Proofs.Ytcmmdaginkhomaa.V
open Go Go.RowKit
set_option linter.unusedVariables false
set_option linter.unusedSimpArgs false
set_option maxRecDepth 100000

theorem list_of {α : Type} {P : Nat → α → Prop} : ∀ n : Nat, (∀ i, i < n → ∃ t, P i t) → ∃ ts : List α, ts.length = n ∧ ∀ (i : Nat) (t : α), ts[i]? = some t → P i t
  | 0, _ => ⟨[], rfl, fun i t h => (by cases h)⟩
  | n + 1, h => by
    obtain ⟨ts, hl, hp⟩ := list_of n fun i hi => h i (by omega)
    obtain ⟨t, ht⟩ := h n (by omega)
    refine ⟨ts ++ [t], by rw [List.length_append, hl]; rfl, fun i u hu => ?_⟩
    rcases Nat.lt_or_ge i n with hi | hi
    · rw [List.getElem?_append_left (by omega)] at hu
      exact hp i u hu
    · have := (List.getElem?_eq_some_iff.1 hu).1
      rw [List.length_append, List.length_singleton] at this
      have hi' : i = n := by omega
      rw [List.getElem?_append_right (by omega), hi', hl, Nat.sub_self] at hu
      injection hu with hu; subst hu; rw [hi']; exact ht
abbrev ThR : Rw := .cons (.int .i64) (.cons (.int .i64) (.cons (.sl 8 (.cons (.int .u64) .nil)) (.cons (.sl 8 (.cons (.int .i64) .nil)) .nil)))
theorem ths_is {w : World} {v : Value} {x : (Dt.sl 64 ThR).T} (h : (Dt.sl 64 ThR).Is w v x) : v = .slice x.1.a x.1.n x.1.c ∧ x.1.n ≤ x.1.c ∧ x.1.n ≤ 4000000000000000 ∧ ∃ ts, ThsIs w x.1 ts := by
  have h' := h
  unfold Dt.Is at h'
  obtain ⟨h1, h2, h3, h4, h5, h6, h7⟩ := h'
  rw [reach_eq] at h5
  refine ⟨h1, h3, by omega, ?_⟩
  obtain ⟨ts, hl, hp⟩ := list_of (P := fun i (t : Th) => ∃ (p : Addr) (c m : Sl), x.1.a = some p ∧ (-9223372036854775808 ≤ t.K ∧ t.K ≤ 9223372036854775807) ∧ (-9223372036854775808 ≤ t.T ∧ t.T ≤ 9223372036854775807) ∧ (∀ y ∈ t.cs, y < 18446744073709551616) ∧ (∀ y ∈ t.ns, -9223372036854775808 ≤ y ∧ y ≤ 9223372036854775807) ∧
    ∀ w', Ext w w' → (w'.cell? ((p.add (i * 4)).add 0) = some (.int .i64 t.K) ∧ w'.cell? ((p.add (i * 4)).add 1) = some (.int .i64 t.T) ∧ w'.cell? ((p.add (i * 4)).add 2) = some (.slice c.a c.n c.c) ∧ w'.cell? ((p.add (i * 4)).add 3) = some (.slice m.a m.n m.c)) ∧ Rd w' 1 c (uv t.cs) ∧ Rd w' 1 m (iv t.ns)) x.1.n (fun i hi => by
    obtain ⟨y, hy⟩ : ∃ y, x.2[i]? = some y := ⟨_, List.getElem?_eq_getElem (by omega)⟩
    obtain ⟨p, vs, hp, ha, hl, hi'⟩ := h7 i y hy
    simp only [Rw.Is] at hi'
    obtain ⟨_, _, rfl, i0, _, _, rfl, i1, _, _, rfl, i2, _, _, rfl, i3, rfl⟩ := hi'
    obtain ⟨rfl, j0⟩ : _ = _ ∧ _ := by simpa only [Dt.Is] using i0
    obtain ⟨rfl, j1⟩ : _ = _ ∧ _ := by simpa only [Dt.Is] using i1
    obtain ⟨rfl, c1, c2, c3, cs, c4, c5⟩ := is_words i2
    obtain ⟨rfl, d1, d2, d3, ns, d4, d5⟩ := is_ints i3
    refine ⟨⟨y.1, y.2.1, cs, ns⟩, p, y.2.2.1.1, y.2.2.2.1.1, hp, wf_i64 j0, wf_i64 j1, c5, d5, fun w' u => ⟨?_, c4.ext u, d4.ext u⟩⟩
    have ha := ha.upd u not_false
    exact ⟨ha 0 _ rfl, ha 1 _ rfl, ha 2 _ rfl, ha 3 _ rfl⟩)
  exact ⟨ts, hl, hp⟩
def posL (os : List Lo) (k : Nat) : Nat := (encs (os.take k)).length
theorem posL_succ {os : List Lo} {k : Nat} {o : Lo} (h : os[k]? = some o) : posL os (k + 1) = posL os k + o.2.length + 2 := by
  unfold posL; rw [take_snoc h, encs_slen]
theorem posL_all {os : List Lo} {k : Nat} (h : os.length ≤ k) : posL os k = (encs os).length := by unfold posL; rw [List.take_of_length_le h]
theorem posL_le {os : List Lo} (k : Nat) : posL os k ≤ (encs os).length := by
  have : os = os.take k ++ os.drop k := (List.take_append_drop k os).symm
  unfold posL
  conv => rhs; rw [this, encs_append, List.length_append]
  omega
theorem split_at {α : Type} {os : List α} {k : Nat} {o : α} (h : os[k]? = some o) : os = os.take k ++ o :: os.drop (k + 1) := by
  obtain ⟨hk, rfl⟩ := List.getElem?_eq_some_iff.1 h
  rw [← List.drop_eq_getElem_cons hk, List.take_append_drop]
theorem objsL_at {os : List Lo} {k : Nat} {o : Lo} (h : os[k]? = some o) : (objsL 0 os)[k]? = some (posL os k + 1, o.1) := by
  have hk := (List.getElem?_eq_some_iff.1 h).1
  have e : objsL 0 os = objsL 0 (os.take k) ++ (posL os k + 1, o.1) :: objsL (posL os k + o.2.length + 2) (os.drop (k + 1)) := by
    conv => lhs; rw [split_at h, objsL_append, Nat.zero_add]
    rfl
  rw [e, List.getElem?_append_right (by rw [objsL_length, List.length_take]; omega), objsL_length, List.length_take, Nat.min_eq_left (by omega), Nat.sub_self]; rfl
theorem refsOf_at {os : List Lo} {k : Nat} {o : Lo} (h : os[k]? = some o) : (refsOf os)[k]? = some (posL os k + 1) := by
  unfold refsOf; rw [List.getElem?_map, objsL_at h]; rfl
section
variable {n : Nat} {os : List Lo}
theorem LInv.at_ (hn : n ≤ 65536) (h : LInv n os) {k : Nat} {o : Lo} (ho : os[k]? = some o) : LoOk o ∧ posL os k + o.2.length + 2 ≤ n ∧ stT (laidA n os) (laidA n os).use (posL os k + 1) = some o.1 ∧ headT (laidA n os) (posL os k + 1) = some o.1 := by
  have hk := (List.getElem?_eq_some_iff.1 ho).1
  have h1 := h.ok o (List.mem_of_getElem? ho)
  have h2 := posL_le (os := os) (k + 1)
  rw [posL_succ ho] at h2
  have hf := h.fit
  have hst : stT (laidA n os) (laidA n os).use (posL os k + 1) = some o.1 := by
    have hp := path_of (A := laidA n os) os 0 h.ok (laid_holds n os) (Nat.le_refl _) (by show 0 + _ ≤ (encs os).length; omega)
    exact (hp.at_ _ (List.mem_of_getElem? (objsL_at ho))).2.2
  exact ⟨h1, by omega, hst, by unfold headT; rw [hst]⟩
theorem LInv.cells (hn : n ≤ 65536) (h : LInv n os) {k : Nat} {o : Lo} (ho : os[k]? = some o) : Holds (laidA n os).ws (posL os k) (o :: os.drop (k + 1)) := by
  have hh := laid_holds n os
  have e : Holds (laidA n os).ws 0 (os.take k ++ o :: os.drop (k + 1)) := by rw [← split_at ho]; exact hh
  have := e.right
  rw [Nat.zero_add] at this
  exact this
theorem LInv.cell (hn : n ≤ 65536) (h : LInv n os) {k : Nat} {o : Lo} (ho : os[k]? = some o) (i : Int) :
    placeT (laidA n os) (posL os k + 1) i = (if 0 ≤ i ∧ i < o.2.length then some (posL os k + 1 + i.toNat) else none) ∧ cellO (laidA n os) (posL os k + 1) i = if 0 ≤ i ∧ i < o.2.length then (o.2.getD i.toNat 0, 0) else (0, 20) := by
  obtain ⟨h1, h2, _, hh⟩ := h.at_ hn ho
  have hl := h1.len
  have ep : placeT (laidA n os) (posL os k + 1) i = (if 0 ≤ i ∧ i < o.2.length then some (posL os k + 1 + i.toNat) else none) := by
    unfold placeT
    rw [hh]
    dsimp only
    rw [← hl]
  refine ⟨ep, ?_⟩
  unfold cellO
  rw [ep]
  by_cases hi : 0 ≤ i ∧ i < (o.2.length : Int)
  · rw [if_pos hi, if_pos hi]
    have := (h.cells hn ho).head.2.2 i.toNat (by omega)
    dsimp only
    rw [List.getD_eq_getElem?_getD, List.getD_eq_getElem?_getD, this]
  · rw [if_neg hi, if_neg hi]
end
section
variable {w w' : World} {b g N : Nat} {os : List Lo} {s s1 s2 : Sl} {cl : List Sl}
theorem Ld.ns (h : Ld w w' b g N os s s1 s2 cl) : s.n = os.length ∧ s1.n = os.length ∧ s2.n = os.length := by
  have h1 := h.r.rd.lenu
  have h2 := h.h.1
  have h3 := h.c.rd.len1
  rw [refsOf_length] at h1
  rw [hdsV_length, List.length_map] at h2
  unfold slV at h3
  rw [List.length_map, h.cn] at h3
  omega
theorem Ld.ref (h : Ld w w' b g N os s s1 s2 cl) {k : Nat} {o : Lo} (ho : os[k]? = some o) : ∃ q, s.a = some q ∧ w'.cell? (q.add k) = some (.int .u64 (posL os k + 1 : Nat)) := by
  have hk := (List.getElem?_eq_some_iff.1 ho).1
  obtain ⟨q, x, hq, hx, hc⟩ := h.r.rd.word k (by rw [h.ns.1]; exact hk)
  rw [refsOf_at ho] at hx
  injection hx with hx
  rw [Nat.mul_one, ← hx] at hc
  exact ⟨q, hq, hc⟩
theorem Ld.head (h : Ld w w' b g N os s s1 s2 cl) {k : Nat} {o : Lo} (ho : os[k]? = some o) : ∃ q, s1.a = some q ∧ w'.cell? ((q.add (k * 4)).add 0) = some (.int .i64 o.1.k) ∧ w'.cell? ((q.add (k * 4)).add 1) = some (.int .i64 o.1.t) ∧
      w'.cell? ((q.add (k * 4)).add 2) = some (.int .i64 o.1.l) ∧ w'.cell? ((q.add (k * 4)).add 3) = some (.int .u64 (o.1.r : Nat)) :=
  h.h.rd.hds (by rw [List.getElem?_map, ho]; rfl)
theorem Ld.row (h : Ld w w' b g N os s s1 s2 cl) {k : Nat} {o : Lo} (ho : os[k]? = some o) : ∃ q c, s2.a = some q ∧ w'.cell? (q.add k) = some (.slice c.a c.n c.c) ∧ Rd w' 1 c (uv o.2) := by
  have hk := (List.getElem?_eq_some_iff.1 ho).1
  obtain ⟨q, v, hq, hv, hc⟩ := h.c.rd.at1 k (by rw [h.ns.2.2]; exact hk)
  unfold slV at hv
  rw [List.getElem?_map] at hv
  obtain ⟨c, hcl, rfl⟩ := Option.map_eq_some_iff.1 hv
  exact ⟨q, c, hq, hc, (h.cs k o c ho hcl).rd⟩
end
end Go.Proofs.Ytcmmdaginkhomaa.V
