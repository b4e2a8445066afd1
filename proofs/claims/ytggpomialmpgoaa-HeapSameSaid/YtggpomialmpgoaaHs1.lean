/-
  Objects in their row; nothing is broken; what stands does so by its list alone.
-/
import Derived.Test.YtggpomialmpgoaaHr1
namespace Go.Proofs.Ytggpomialmpgoaa.V
open Go Go.RowKit
set_option linter.unusedVariables false
set_option linter.unusedSimpArgs false
set_option maxRecDepth 100000

theorem Path.next {A : Ar} {a k e : Nat} {m l : List Ob} {h : Hd} (hm : Path A a m k) (hs : stT A A.use (k + 1) = some h) (hl : Path A a l e) (he : stT A A.use (e + 1) = none) : l[m.length]? = some (k + 1, h) := by
  obtain ⟨m', rfl, _⟩ := (hm.snoc hs).rest hl he
  rw [List.append_assoc, List.getElem?_append_right (Nat.le_refl _), Nat.sub_self]; rfl
/-- the objects of a list of things -/
def obsQ (T : Nat → Th) (f : Nat) (Q : List Nat) (n : Nat) : List Ob := (List.range n).map fun t => (f + posQ T Q t + 1, hdrT (T (Q.getD t 0)))
theorem obsQ_len (T : Nat → Th) (f : Nat) (Q : List Nat) (n : Nat) : (obsQ T f Q n).length = n := by simp [obsQ]
theorem obsQ_at {T : Nat → Th} {f : Nat} {Q : List Nat} {n t j : Nat} (ht : t < n) (hj : Q[t]? = some j) : (obsQ T f Q n)[t]? = some (f + posQ T Q t + 1, hdrT (T j)) := by
  unfold obsQ
  rw [List.getElem?_map, List.getElem?_range ht]
  show some (f + posQ T Q t + 1, hdrT (T (Q.getD t 0))) = _
  rw [List.getD_eq_getElem?_getD, hj]; rfl
section
variable {T : Nat → Th} {N n f : Nat} {Q : List Nat} {A : Ar}
theorem Laid.stands (h : Laid T N n f Q (pNew T f Q) A) {t j : Nat} (hj : Q[t]? = some j) : stT A A.use (f + posQ T Q t + 1) = some (hdrT (T j)) ∧ ObjAt A.ws (f + posQ T Q t) (hdrT (T j)) (cellV N (fun m => pNew T f Q m + 1) (T j)) := by
  obtain ⟨h1, h2, o⟩ := h.at_ j (List.mem_of_getElem? hj)
  have ep : pNew T f Q j = f + posQ T Q t := by unfold pNew; rw [idxOf_at h.nd hj]
  rw [ep] at h1 h2 o
  exact ⟨o.st (hdrT_may _) (by rw [h.uf]; exact h1) (by rw [hl_nat]; exact h2), o⟩
theorem Laid.path (h : Laid T N n f Q (pNew T f Q) A) : ∀ t, t ≤ Q.length → Path A A.use.f (obsQ T f Q t) (f + posQ T Q t)
  | 0, _ => by rw [h.uf]; exact .nil
  | t + 1, ht => by
    have hj : Q[t]? = some Q[t] := List.getElem?_eq_getElem (by omega)
    have ih := h.path t (by omega)
    have hs := (h.stands hj).1
    have := ih.snoc hs
    rw [hl_nat] at this
    rw [posQ_succ hj]
    have e : obsQ T f Q (t + 1) = obsQ T f Q t ++ [(f + posQ T Q t + 1, hdrT (T Q[t]))] := by
      unfold obsQ
      rw [List.range_succ, List.map_append, List.map_cons, List.map_nil, List.getD_eq_getElem?_getD, hj]; rfl
    rw [e]
    simp only [← Nat.add_assoc] at this ⊢
    exact this
theorem Laid.whole (h : Laid T N n f Q (pNew T f Q) A) (hue : A.use.e = f + szQ T Q) : Path A A.use.f (obsQ T f Q Q.length) A.use.e ∧ stT A A.use (A.use.e + 1) = none := by
  have := h.path Q.length (Nat.le_refl _)
  rw [posQ_all (Nat.le_refl _), ← hue] at this
  refine ⟨this, ?_⟩
  unfold stT
  rw [if_neg (by omega)]
/-- a walk that stands somewhere -/
theorem Laid.at_walk (h : Laid T N n f Q (pNew T f Q) A) (hue : A.use.e = f + szQ T Q) {m : List Ob} {k : Nat} {hd : Hd} (hm : Path A A.use.f m k) (hs : stT A A.use (k + 1) = some hd) :
    ∃ j, Q[m.length]? = some j ∧ k = f + posQ T Q m.length ∧ hd = hdrT (T j) := by
  obtain ⟨hw, he⟩ := h.whole hue
  have hn := hm.next hs hw he
  have hl := (List.getElem?_eq_some_iff.1 hn).1
  rw [obsQ_len] at hl
  have hj : Q[m.length]? = some Q[m.length] := List.getElem?_eq_getElem hl
  rw [obsQ_at hl hj] at hn
  injection hn with hn
  have e1 := congrArg Prod.fst hn; have e2 := congrArg Prod.snd hn
  dsimp only at e1 e2
  exact ⟨_, hj, by omega, e2.symm⟩
theorem Laid.end_walk (h : Laid T N n f Q (pNew T f Q) A) (hue : A.use.e = f + szQ T Q) {m : List Ob} {k : Nat} (hm : Path A A.use.f m k) (hs : stT A A.use (k + 1) = none) : m.length = Q.length := by
  obtain ⟨hw, he⟩ := h.whole hue
  rw [(hm.uniq hs hw he).1, obsQ_len]
theorem Laid.cellO (h : Laid T N n f Q (pNew T f Q) A) {t j a : Nat} (hj : Q[t]? = some j) (ha : a < lenT (T j)) : cellO A (f + posQ T Q t + 1) (a : Int) = (cellV N (fun m => pNew T f Q m + 1) (T j) a, 0) := by
  obtain ⟨hs, o⟩ := h.stands hj
  have hc := o.cells a (by rw [hl_nat]; exact ha)
  have hp : placeT A (f + posQ T Q t + 1) (a : Int) = some (f + posQ T Q t + 1 + a) := by
    unfold placeT headT
    rw [hs]
    dsimp only
    rw [if_pos (by rw [hdrT_l]; omega), Int.toNat_natCast]
  unfold V.cellO
  rw [hp]
  dsimp only
  rw [List.getD_eq_getElem?_getD, hc]; rfl
end
/-- nothing is broken -/
theorem Laid.check {T : Nat → Th} {N n f : Nat} {Q : List Nat} {A : Ar} (h : Laid T N n f Q (pNew T f Q) A) (hue : A.use.e = f + szQ T Q) : checkT A = (0, 0) := by
  obtain ⟨hw, he⟩ := h.whole hue
  have ea := allT_eq h.ok hw he
  unfold checkT
  rw [ea]
  dsimp only
  rw [if_pos rfl]
  have : (obsQ T f Q Q.length).find? (badT A (obsQ T f Q Q.length)) = none := by
    rw [List.find?_eq_none]
    intro o ho
    obtain ⟨t, ht, rfl⟩ := List.getElem_of_mem ho
    rw [obsQ_len] at ht
    have hj : Q[t]? = some Q[t] := List.getElem?_eq_getElem ht
    have e := obsQ_at (T := T) (f := f) (n := Q.length) ht hj
    rw [List.getElem?_eq_getElem (by rw [obsQ_len]; exact ht)] at e
    injection e with e
    rw [e]
    rw [badT_false]
    · simp
    intro i hi
    dsimp only at hi
    rw [hl_nat] at hi
    unfold badC
    dsimp only
    cases hr : refT (hdrT (T Q[t])) i with
    | false => rfl
    | true =>
      have hc := (h.stands hj).2.cells i (by rw [hl_nat]; exact hi)
      rw [List.getD_eq_getElem?_getD, show f + posQ T Q t + 1 + i = f + posQ T Q t + 1 + i from rfl, hc]
      show (true && !thereT _ (cellV N _ (T Q[t]) i)) = false
      cases hn : namT N (T Q[t]) i with
      | none => rw [cellV_zero hi hn hr]; rfl
      | some k =>
        rw [cellV_some hn]
        have hk := h.closed _ (List.mem_of_getElem? hj) i hi k hn
        obtain ⟨u, hu, hku⟩ := List.getElem_of_mem hk
        have hku' : Q[u]? = some k := by rw [List.getElem?_eq_getElem hu, hku]
        have eu := obsQ_at (T := T) (f := f) (n := Q.length) hu hku'
        have : thereT (obsQ T f Q Q.length) (pNew T f Q k + 1) = true := by
          unfold thereT
          rw [Bool.or_eq_true]
          right
          refine List.any_eq_true.2 ⟨_, List.mem_of_getElem? eu, ?_⟩
          dsimp only
          unfold pNew
          rw [idxOf_at h.nd hku']
          simp
        rw [this]; rfl
  rw [this]
theorem Laid.congr {T : Nat → Th} {N n f : Nat} {order : List Nat} {p p' : Nat → Nat} {A : Ar} (h : Laid T N n f order p A) (hp : ∀ j ∈ order, p' j = p j) : Laid T N n f order p' A := by
  refine ⟨h.ok, h.nn, h.opn, h.uf, fun j hj => ?_, fun j hj k hk hne => ?_, h.nd, h.fit, h.closed⟩
  · obtain ⟨h1, h2, o⟩ := h.at_ j hj
    rw [hp j hj]
    refine ⟨h1, h2, o.congr (fun _ _ _ => rfl) fun i hi => ?_⟩
    rw [hl_nat] at hi
    cases hn : namT N (T j) i with
    | none => exact cellV_none hn
    | some k => rw [cellV_some hn, cellV_some hn, hp k (h.closed j hj i hi k hn)]
  · rw [hp j hj, hp k hk]; exact h.apart j hj k hk hne
theorem pNew_snoc {T : Nat → Th} {f : Nat} {order : List Nat} {j : Nat} (hn : (order ++ [j]).Nodup) : ∀ m ∈ order ++ [j], pNew T f (order ++ [j]) m = pMk (pNew T f order) j (f + szQ T order) m := by
  intro m hm
  have hno := List.nodup_append.1 hn
  rcases List.mem_append.1 hm with h | h
  · have hne : m ≠ j := fun e => hno.2.2 m h j (List.mem_cons_self ..) e
    rw [pMk_ne hne]
    obtain ⟨t, ht, rfl⟩ := List.getElem_of_mem h
    have h1 : order[t]? = some order[t] := List.getElem?_eq_getElem ht
    have h2 : (order ++ [j])[t]? = some order[t] := by rw [List.getElem?_append_left ht]; exact h1
    unfold pNew
    rw [idxOf_at hn h2, idxOf_at hno.1 h1, posQ_append (by omega)]
  · have := List.mem_singleton.1 h
    subst this
    rw [pMk_at]
    have h2 : (order ++ [m])[order.length]? = some m := by rw [List.getElem?_append_right (Nat.le_refl _), Nat.sub_self]; rfl
    unfold pNew
    rw [idxOf_at hn h2, posQ_append (Nat.le_refl _), posQ_all (Nat.le_refl _)]
/-- made, in its list -/
theorem Laid.make' {T : Nat → Th} {N n f : Nat} {order : List Nat} {A : Ar} (h : Laid T N n f order (pNew T f order) A) (hue : A.use.e = f + szQ T order) {j : Nat} (hj : j ∉ order) (hroom : szQ T order + lenT (T j) + 2 ≤ n) (hnm : ∀ i, i < lenT (T j) → ∀ k, namT N (T j) i = some k → k ∈ order)
    {cs : List Nat} (hcl : cs.length = lenT (T j)) (hc : ∀ i, i < lenT (T j) → cs[i]? = some (cellV N (fun k => pNew T f order k + 1) (T j) i)) (hlt : ∀ y ∈ cs, y < 18446744073709551616) :
    ∃ A', makeT A (hdrT (T j)) cs = (A', pNew T f (order ++ [j]) j + 1, 0) ∧ Laid T N n f (order ++ [j]) (pNew T f (order ++ [j])) A' ∧ A'.use.e = f + szQ T (order ++ [j]) ∧ (∀ m ∈ order, pNew T f (order ++ [j]) m = pNew T f order m) := by
  obtain ⟨A', e, L, u⟩ := h.make hue hj hroom hnm hcl hc hlt
  have hs := pNew_snoc (T := T) (f := f) L.nd
  refine ⟨A', ?_, L.congr hs, u, fun m hm => ?_⟩
  · rw [hs j (by simp), pMk_at, e]
  · rw [hs m (List.mem_append_left _ hm), pMk_ne (m := m) (fun e => hj (by rw [← e]; exact hm))]
theorem szQ_eq {T : Nat → Th} {n : Nat} (h : ∀ i, lenT (T i) = n) (q : List Nat) : szQ T q = q.length * (n + 2) := by
  induction q with
  | nil => simp [szQ]
  | cons a q ih =>
    have e : szQ T (a :: q) = lenT (T a) + 2 + szQ T q := rfl
    rw [e, ih, h, List.length_cons, Nat.add_mul, Nat.one_mul, Nat.add_comm]
end Go.Proofs.Ytggpomialmpgoaa.V
