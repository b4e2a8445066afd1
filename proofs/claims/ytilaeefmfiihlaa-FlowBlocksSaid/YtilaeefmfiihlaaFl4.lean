/-
  The graph in memory; going through it in depth: what is come to, and an order.
-/
import Derived.Test.YtilaeefmfiihlaaFl3
import Derived.Test.YtilaeefmfiihlaaDm
import Derived.Test.YtilaeefmfiihlaaVcB
namespace Go.Proofs.Ytilaeefmfiihlaa.V
open Go Go.RowKit
set_option linter.unusedVariables false
set_option linter.unusedSimpArgs false
set_option maxRecDepth 100000

/-- the least that serves: a measure of what is only known to be -/
theorem exists_least {p : Nat → Prop} (h : ∃ m, p m) : ∃ m, p m ∧ ∀ k, p k → m ≤ k := by
  obtain ⟨m, hm⟩ := h
  induction m using Nat.strongRecOn with
  | ind m ih =>
    by_cases hk : ∃ k, p k ∧ k < m
    · obtain ⟨k, hk, hl⟩ := hk
      exact ih k hl hk
    · exact ⟨m, hm, fun k hp => Nat.le_of_not_lt fun hl => hk ⟨k, hp, hl⟩⟩
noncomputable def least (p : Nat → Prop) : Nat := open Classical in if h : ∃ m, p m then Classical.choose (exists_least h) else 0
theorem least_spec {p : Nat → Prop} (h : ∃ m, p m) : p (least p) := by
  unfold least; rw [dif_pos h]; exact (Classical.choose_spec (exists_least h)).1
theorem least_le {p : Nat → Prop} {m : Nat} (h : p m) : least p ≤ m := by
  unfold least; rw [dif_pos ⟨m, h⟩]; exact (Classical.choose_spec (exists_least ⟨m, h⟩)).2 m h

def Eg (c : List Ins) (f k : Nat) : Prop := k ∈ nxT c f
def Rc (c : List Ins) (x : Nat) : Prop := Av (Eg c) c.length x
structure Dfs (c : List Ins) (L : List Nat) (st : List (Nat × Nat)) (rb : List Bool) : Prop where
  nd : (L ++ st.map Prod.fst).Nodup
  rbl : rb.length = c.length
  rb : ∀ x, x < c.length → (rb[x]? = some true ↔ x ∈ L ++ st.map Prod.fst)
  lt : ∀ x ∈ L ++ st.map Prod.fst, x < c.length
  rch : ∀ x ∈ L ++ st.map Prod.fst, Rc c x
  k : ∀ p ∈ st, p.2 ≤ (nxT c p.1).length
  cl : ∀ x ∈ L, ∀ y ∈ nxT c x, y ∈ L ++ st.map Prod.fst
  cs : ∀ p ∈ st, ∀ y ∈ (nxT c p.1).take p.2, y ∈ L ++ st.map Prod.fst
  ad : ∀ i p q, st[i]? = some p → st[i + 1]? = some q → q.1 ∈ nxT c p.1
  b0 : ∀ p, st[0]? = some p → p.1 = 0
  par : ∀ y ∈ L, y ≠ 0 → ∃ f, y ∈ nxT c f ∧ (f ∈ st.map Prod.fst ∨ ∃ i j : Nat, i < j ∧ L[i]? = some y ∧ L[j]? = some f)
  e0 : st = [] → ∃ L0, L = L0 ++ [0]
structure RowsOk (c : List Ins) (rows : List Nat) (rb : List Bool) : Prop where
  nd : rows.Nodup
  mem : ∀ x, x ∈ rows ↔ Rc c x
  lt : ∀ x ∈ rows, x < c.length
  rbl : rb.length = c.length
  rb : ∀ x, x < c.length → (rb[x]? = some true ↔ x ∈ rows)
  hd : c ≠ [] → ∃ r, rows = 0 :: r
  par : ∀ y ∈ rows, y ≠ 0 → ∃ f, y ∈ nxT c f ∧ ∃ i j : Nat, i < j ∧ rows[i]? = some f ∧ rows[j]? = some y
section
variable {c : List Ins} {L : List Nat} {st : List (Nat × Nat)} {rb : List Bool} {x k y : Nat}
theorem Dfs.start (hn : 0 < c.length) : Dfs c [] [(0, 0)] ((List.replicate c.length false).set 0 true) := by
  refine ⟨by simp, by simp, fun x hx => ?_, fun x hx => by simp at hx; omega, fun x hx => ?_, fun p hp => ?_, fun x hx => (by cases hx), fun p hp y hy => ?_, fun i p q hp hq => ?_, fun p hp => ?_, fun y hy => (by cases hy), fun h => (by cases h)⟩
  · rw [List.getElem?_set, List.length_replicate]
    by_cases h0 : x = 0
    · subst h0; simp [hn]
    · rw [if_neg (fun e => h0 e.symm)]
      simp [h0, hx]
  · simp at hx; subst hx; exact .zero (by omega)
  · simp at hp; subst hp; exact Nat.zero_le _
  · simp at hp; subst hp; simp at hy
  · simp at hq
  · simp at hp; subst hp; rfl
theorem snoc_get {α : Type} {l : List α} {a : α} {i : Nat} {p : α} (h : l[i]? = some p) : (l ++ [a])[i]? = some p := by
  rw [List.getElem?_append_left (List.getElem?_eq_some_iff.1 h).1]; exact h
/-- done with one -/
theorem Dfs.pop (h : Dfs c L (st ++ [(x, k)]) rb) (hk : k = (nxT c x).length) : Dfs c (L ++ [x]) st rb := by
  have hm : ∀ z, z ∈ (L ++ [x]) ++ st.map Prod.fst ↔ z ∈ L ++ (st ++ [(x, k)]).map Prod.fst := fun z => by
    simp only [List.map_append, List.map_cons, List.map_nil, List.mem_append, List.mem_singleton]
    constructor
    · rintro ((h | h) | h)
      · exact .inl h
      · exact .inr (.inr h)
      · exact .inr (.inl h)
    · rintro (h | h | h)
      · exact .inl (.inl h)
      · exact .inr h
      · exact .inl (.inr h)
  refine ⟨?_, h.rbl, fun z hz => by rw [h.rb z hz, hm], fun z hz => h.lt z ((hm z).1 hz), fun z hz => h.rch z ((hm z).1 hz), fun p hp => h.k p (List.mem_append_left _ hp), fun z hz y hy => ?_, fun p hp y hy => (hm y).2 (h.cs p (List.mem_append_left _ hp) y hy),
    fun i p q hp hq => h.ad i p q (snoc_get hp) (snoc_get hq), fun p hp => h.b0 p (snoc_get hp), fun y hy h0 => ?_, fun hs => ?_⟩
  · have := h.nd
    rw [List.map_append, ← List.append_assoc] at this
    simp only [List.map_cons, List.map_nil] at this
    have hp : (L ++ st.map Prod.fst ++ [x]).Perm ((L ++ [x]) ++ st.map Prod.fst) := by
      rw [List.append_assoc, List.append_assoc]
      exact List.Perm.append_left _ List.perm_append_comm
    exact hp.nodup this
  · rw [hm]
    rcases List.mem_append.1 hz with hz | hz
    · exact h.cl z hz y hy
    · rw [List.mem_singleton.1 hz] at hy
      refine h.cs (x, k) (by simp) y ?_
      rw [hk, List.take_length]; exact hy
  · rcases List.mem_append.1 hy with hy1 | hy
    · obtain ⟨f, e, hf⟩ := h.par y hy1 h0
      refine ⟨f, e, ?_⟩
      rcases hf with hf | ⟨i, j, hij, hi, hj⟩
      · rw [List.map_append, List.mem_append] at hf
        rcases hf with hf | hf
        · exact .inl hf
        · simp at hf; subst hf
          obtain ⟨i, hi⟩ := List.mem_iff_getElem?.1 hy1
          exact .inr ⟨i, L.length, (List.getElem?_eq_some_iff.1 hi).1, snoc_get hi, by simp⟩
      · exact .inr ⟨i, j, hij, snoc_get hi, snoc_get hj⟩
    · rw [List.mem_singleton] at hy; subst hy
      rcases List.eq_nil_or_concat st with rfl | ⟨s0, ⟨f, k'⟩, rfl⟩
      · exact absurd (h.b0 (y, k) (by simp)) h0
      · rw [List.concat_eq_append] at *
        refine ⟨f, h.ad s0.length (f, k') (y, k) (by simp) (by simp), .inl (by simp)⟩
  · subst hs
    have := h.b0 (x, k) (by simp)
    exact ⟨L, by rw [← this]⟩
theorem Dfs.adv (h : Dfs c L (st ++ [(x, k)]) rb) (hy : (nxT c x)[k]? = some y) (hv : y ∈ L ++ (st ++ [(x, k)]).map Prod.fst) : Dfs c L (st ++ [(x, k + 1)]) rb := by
  have hmap : (st ++ [(x, k + 1)]).map Prod.fst = (st ++ [(x, k)]).map Prod.fst := by simp
  refine ⟨by rw [hmap]; exact h.nd, h.rbl, by rw [hmap]; exact h.rb, by rw [hmap]; exact h.lt, by rw [hmap]; exact h.rch, fun p hp => ?_, by rw [hmap]; exact h.cl, fun p hp z hz => ?_, fun i p q hp hq => ?_, fun p hp => ?_, by rw [hmap]; exact h.par, fun hs => by simp at hs⟩
  · rcases List.mem_append.1 hp with hp | hp
    · exact h.k p (List.mem_append_left _ hp)
    · rw [List.mem_singleton.1 hp]; exact (List.getElem?_eq_some_iff.1 hy).1
  · rw [hmap]
    rcases List.mem_append.1 hp with hp | hp
    · exact h.cs p (List.mem_append_left _ hp) z hz
    · rw [List.mem_singleton.1 hp] at hz
      rw [take_snoc hy, List.mem_append, List.mem_singleton] at hz
      rcases hz with hz | rfl
      · exact h.cs (x, k) (by simp) z hz
      · exact hv
  · have hget : ∀ {j : Nat} {p : Nat × Nat}, (st ++ [(x, k + 1)])[j]? = some p → ∃ p' : Nat × Nat, (st ++ [(x, k)])[j]? = some p' ∧ p'.1 = p.1 := fun {j p} hj => by
      have := congrArg (·[j]?) hmap
      simp only [List.getElem?_map, hj, Option.map_some] at this
      cases hh : (st ++ [(x, k)])[j]? with
      | none => rw [hh] at this; cases this
      | some p' => rw [hh] at this; injection this with this; exact ⟨p', rfl, this.symm⟩
    obtain ⟨p', h1, e1⟩ := hget hp
    obtain ⟨q', h2, e2⟩ := hget hq
    rw [← e1, ← e2]; exact h.ad i p' q' h1 h2
  · have := congrArg (·[0]?) hmap
    simp only [List.getElem?_map, hp, Option.map_some] at this
    cases hh : (st ++ [(x, k)])[0]? with
    | none => rw [hh] at this; cases this
    | some p' => rw [hh] at this; injection this with this; rw [this]; exact h.b0 p' hh
theorem Dfs.push (h : Dfs c L (st ++ [(x, k)]) rb) (hy : (nxT c x)[k]? = some y) (hv : rb[y]? = some false) : Dfs c L ((st ++ [(x, k + 1)]) ++ [(y, 0)]) (rb.set y true) := by
  have hyl : y < rb.length := (List.getElem?_eq_some_iff.1 hv).1
  have hyn : y ∉ L ++ (st ++ [(x, k)]).map Prod.fst := fun hm => by
    have := (h.rb y (by rw [← h.rbl]; exact hyl)).2 hm
    rw [hv] at this; cases this
  have hym := List.mem_of_getElem? hy
  have hmap : ((st ++ [(x, k + 1)]) ++ [(y, 0)]).map Prod.fst = (st ++ [(x, k)]).map Prod.fst ++ [y] := by simp
  have hm : ∀ z, z ∈ L ++ ((st ++ [(x, k + 1)]) ++ [(y, 0)]).map Prod.fst ↔ z ∈ L ++ (st ++ [(x, k)]).map Prod.fst ∨ z = y := fun z => by
    rw [hmap, ← List.append_assoc, List.mem_append (s := L ++ _), List.mem_singleton]
  refine ⟨?_, by rw [List.length_set]; exact h.rbl, fun z hz => ?_, fun z hz => ?_, fun z hz => ?_, fun p hp => ?_, fun z hz w hw => (hm w).2 (.inl (h.cl z hz w hw)), fun p hp z hz => ?_, fun i p q hp hq => ?_, fun p hp => ?_, fun z hz h0 => ?_, fun hs => by simp at hs⟩
  · rw [hmap, ← List.append_assoc, List.nodup_append]
    exact ⟨h.nd, by simp, fun a ha b hb => by rw [List.mem_singleton.1 hb]; rintro rfl; exact hyn ha⟩
  · rw [hm, ← h.rb z hz, List.getElem?_set]
    by_cases e : y = z
    · subst e; simp [hyl]
    · rw [if_neg e]
      exact ⟨.inl, fun h => h.elim id fun h => absurd h.symm e⟩
  · rcases (hm z).1 hz with hz | rfl
    · exact h.lt z hz
    · rw [← h.rbl]; exact hyl
  · rcases (hm z).1 hz with hz | rfl
    · exact h.rch z hz
    · exact .step (h.rch x (by simp)) hym (by rw [← h.rbl]; omega)
  · rcases List.mem_append.1 hp with hp | hp
    · rcases List.mem_append.1 hp with hp | hp
      · exact h.k p (List.mem_append_left _ hp)
      · rw [List.mem_singleton.1 hp]; exact (List.getElem?_eq_some_iff.1 hy).1
    · rw [List.mem_singleton.1 hp]; exact Nat.zero_le _
  · rw [hm]
    rcases List.mem_append.1 hp with hp | hp
    · rcases List.mem_append.1 hp with hp | hp
      · exact .inl (h.cs p (List.mem_append_left _ hp) z hz)
      · rw [List.mem_singleton.1 hp] at hz
        rw [take_snoc hy, List.mem_append, List.mem_singleton] at hz
        rcases hz with hz | rfl
        · exact .inl (h.cs (x, k) (by simp) z hz)
        · exact .inr rfl
    · rw [List.mem_singleton.1 hp] at hz; simp at hz
  · have hget : ∀ {j : Nat} {p : Nat × Nat}, j < st.length + 1 → ((st ++ [(x, k + 1)]) ++ [(y, 0)])[j]? = some p → ∃ p' : Nat × Nat, (st ++ [(x, k)])[j]? = some p' ∧ p'.1 = p.1 := fun {j p} hjl hj => by
      rw [List.getElem?_append_left (by simp; omega)] at hj
      have := congrArg (·[j]?) (show (st ++ [(x, k + 1)]).map Prod.fst = (st ++ [(x, k)]).map Prod.fst by simp)
      simp only [List.getElem?_map, hj, Option.map_some] at this
      cases hh : (st ++ [(x, k)])[j]? with
      | none => rw [hh] at this; cases this
      | some p' => rw [hh] at this; injection this with this; exact ⟨p', rfl, this.symm⟩
    have hil : i + 1 < (st ++ [(x, k + 1)] ++ [(y, 0)]).length := (List.getElem?_eq_some_iff.1 hq).1
    simp at hil
    by_cases e : i + 1 = st.length + 1
    · have : i = st.length := by omega
      subst this
      rw [List.getElem?_append_right (by simp)] at hq
      rw [List.getElem?_append_left (by simp), List.getElem?_append_right (Nat.le_refl _)] at hp
      simp at hp hq
      subst hp; subst hq
      exact hym
    · obtain ⟨p', h1, e1⟩ := hget (by omega) hp
      obtain ⟨q', h2, e2⟩ := hget (by omega) hq
      rw [← e1, ← e2]; exact h.ad i p' q' h1 h2
  · rw [List.getElem?_append_left (by simp)] at hp
    have := congrArg (·[0]?) (show (st ++ [(x, k + 1)]).map Prod.fst = (st ++ [(x, k)]).map Prod.fst by simp)
    simp only [List.getElem?_map, hp, Option.map_some] at this
    cases hh : (st ++ [(x, k)])[0]? with
    | none => rw [hh] at this; cases this
    | some p' => rw [hh] at this; injection this with this; rw [this]; exact h.b0 p' hh
  · obtain ⟨f, e, hf⟩ := h.par z hz h0
    refine ⟨f, e, hf.imp (fun hf => ?_) id⟩
    rw [hmap]; exact List.mem_append_left _ hf
theorem Dfs.done (h : Dfs c L [] rb) : RowsOk c L.reverse rb := by
  have hnd := h.nd
  simp only [List.map_nil, List.append_nil] at hnd
  obtain ⟨L0, e0⟩ := h.e0 rfl
  have hmem : ∀ x, x ∈ L ↔ Rc c x := fun x => by
    refine ⟨fun hx => h.rch x (by simpa using hx), fun hx => ?_⟩
    induction hx with
    | zero _ => rw [e0]; simp
    | step _ e _ ih => have := h.cl _ ih _ e; simpa using this
  refine ⟨List.pairwise_reverse.2 (hnd.imp fun h => h.symm), fun x => by rw [List.mem_reverse, hmem], fun x hx => h.lt x (by simpa using hx), h.rbl, fun x hx => by rw [h.rb x hx]; simp, fun _ => ⟨L0.reverse, by rw [e0]; simp⟩, fun y hy h0 => ?_⟩
  obtain ⟨f, e, hf⟩ := h.par y (List.mem_reverse.1 hy) h0
  refine ⟨f, e, ?_⟩
  rcases hf with hf | ⟨i, j, hij, hi, hj⟩
  · simp at hf
  have hjl := (List.getElem?_eq_some_iff.1 hj).1
  refine ⟨L.length - 1 - j, L.length - 1 - i, by omega, ?_, ?_⟩
  · rw [List.getElem?_reverse (by omega), show L.length - 1 - (L.length - 1 - j) = j by omega]; exact hj
  · rw [List.getElem?_reverse (by omega), show L.length - 1 - (L.length - 1 - i) = i by omega]; exact hi
end
end Go.Proofs.Ytilaeefmfiihlaa.V
