/-
  Objects made and held: the plain law.
-/
import Derived.Test.YtggpomialmpgoaaCgB
import Derived.Test.YtggpomialmpgoaaHp3
namespace Go.Proofs.Ytggpomialmpgoaa.V
open Go Go.RowKit
set_option linter.unusedVariables false
set_option linter.unusedSimpArgs false
set_option maxRecDepth 100000

def pMk (p : Nat → Nat) (j a : Nat) : Nat → Nat := fun m => if m = j then a else p m
theorem pMk_at (p : Nat → Nat) (j a : Nat) : pMk p j a j = a := by unfold pMk; rw [if_pos rfl]
theorem pMk_ne {p : Nat → Nat} {j a m : Nat} (h : m ≠ j) : pMk p j a m = p m := by unfold pMk; rw [if_neg h]
section
variable {T : Nat → Th} {N n f : Nat} {order : List Nat} {p : Nat → Nat} {A : Ar}
theorem cellV_pMk {j a m i : Nat} (hj : j ∉ order) (hn : ∀ k, namT N (T m) i = some k → k ∈ order) : cellV N (fun k => pMk p j a k + 1) (T m) i = cellV N (fun k => p k + 1) (T m) i := by
  cases h : namT N (T m) i with
  | none => exact cellV_none h
  | some k =>
    rw [cellV_some h, cellV_some h, pMk_ne]
    rintro rfl
    exact hj (hn k h)
theorem Laid.make (h : Laid T N n f order p A) (hue : A.use.e = f + szQ T order) {j : Nat} (hj : j ∉ order) (hroom : szQ T order + lenT (T j) + 2 ≤ n) (hnm : ∀ i, i < lenT (T j) → ∀ k, namT N (T j) i = some k → k ∈ order)
    {cs : List Nat} (hcl : cs.length = lenT (T j)) (hc : ∀ i, i < lenT (T j) → cs[i]? = some (cellV N (fun k => p k + 1) (T j) i)) (hlt : ∀ y ∈ cs, y < 18446744073709551616) :
    ∃ A', makeT A (hdrT (T j)) cs = (A', f + szQ T order + 1, 0) ∧ Laid T N n f (order ++ [j]) (pMk p j (f + szQ T order)) A' ∧ A'.use.e = f + szQ T (order ++ [j]) := by
  obtain ⟨hs, he⟩ := h.space
  have hlen := h.ok.len; have nn := h.nn
  have hl := hl_nat (T j)
  have e : makeT A (hdrT (T j)) cs = ({ A with ws := layL A.ws A.use.e (packT (hdrT (T j)) :: (cs ++ [18446744073709551615 - packT (hdrT (T j))])), use := ⟨A.use.f, A.use.e + cs.length + 2⟩ }, A.use.e + 1, 0) := by
    unfold makeT
    rw [if_pos ⟨decide_eq_true (hdrT_may (T j)), by rw [hcl, hdrT_l], h.opn⟩, if_neg (by rw [hcl, h.uf]; omega)]
  have hok := makeT_ok h.ok (hd := hdrT (T j)) hlt
  rw [e] at hok
  have hX : (packT (hdrT (T j)) :: (cs ++ [18446744073709551615 - packT (hdrT (T j))])).length = lenT (T j) + 2 := by simp [hcl]
  have hroom2 : A.use.e + (lenT (T j) + 2) ≤ A.ws.length := by omega
  have hW : ∀ a, (layL A.ws A.use.e (packT (hdrT (T j)) :: (cs ++ [18446744073709551615 - packT (hdrT (T j))])))[a]? = if a < A.use.e then A.ws[a]? else if a < A.use.e + (lenT (T j) + 2) then (packT (hdrT (T j)) :: (cs ++ [18446744073709551615 - packT (hdrT (T j))]))[a - A.use.e]? else A.ws[a]? := by
    intro a
    rw [layL_get (by rw [hX]; exact hroom2), hX]
  have hnd : (order ++ [j]).Nodup := by
    rw [List.nodup_append]
    refine ⟨h.nd, by simp, fun a ha b hb => ?_⟩
    rw [List.mem_singleton.1 hb]; rintro rfl; exact hj ha
  have hsz : szQ T (order ++ [j]) = szQ T order + lenT (T j) + 2 := by rw [szQ_append, szQ_one]; omega
  have hne : ∀ m ∈ order, m ≠ j := fun m hm e => hj (e ▸ hm)
  refine ⟨_, by rw [e, hue], ⟨hok, nn, h.opn, h.uf, fun m hm => ?_, fun a ha b hb hab => ?_, hnd, by omega, fun m hm i hi k hk => ?_⟩, ?_⟩
  · rcases List.mem_append.1 hm with hm | hm
    · obtain ⟨h1, h2, o⟩ := h.at_ m hm
      rw [pMk_ne (hne m hm)]
      refine ⟨h1, by dsimp only; omega, o.congr (fun a ha1 ha2 => ?_) fun a ha => cellV_pMk hj (fun k hk => h.closed m hm a (by rw [hl_nat] at ha; exact ha) k hk)⟩
      rw [hl_nat] at ha2
      rw [hW, if_pos (by omega)]
    · have hm' := List.mem_singleton.1 hm
      subst hm'
      rw [pMk_at]
      refine ⟨by omega, by dsimp only; omega, ?_, fun a ha => ?_, ?_⟩
      · rw [hW, if_neg (by omega), if_pos (by omega), show f + szQ T order - A.use.e = 0 by omega]; rfl
      · rw [hl] at ha
        rw [hW, if_neg (by omega), if_pos (by omega), show f + szQ T order + 1 + a - A.use.e = a + 1 by omega, List.getElem?_cons_succ, List.getElem?_append_left (by omega), hc a ha, cellV_pMk hj (hnm a ha)]
      · rw [hl, hW, if_neg (by omega), if_pos (by omega), show f + szQ T order + lenT (T m) + 1 - A.use.e = lenT (T m) + 1 by omega, List.getElem?_cons_succ, List.getElem?_append_right (by omega), hcl, Nat.sub_self]; rfl
  · have key : ∀ m ∈ order, p m + lenT (T m) + 2 ≤ f + szQ T order := fun m hm => by have := (h.at_ m hm).2.1; omega
    rcases List.mem_append.1 ha with ha' | ha' <;> rcases List.mem_append.1 hb with hb' | hb'
    · rw [pMk_ne (hne a ha'), pMk_ne (hne b hb')]; exact h.apart a ha' b hb' hab
    · have := List.mem_singleton.1 hb'
      subst this
      rw [pMk_ne (hne a ha'), pMk_at]; exact .inl (key a ha')
    · have := List.mem_singleton.1 ha'
      subst this
      rw [pMk_ne (hne b hb'), pMk_at]; exact .inr (key b hb')
    · exact absurd ((List.mem_singleton.1 ha').trans (List.mem_singleton.1 hb').symm) hab
  · rcases List.mem_append.1 hm with hm | hm
    · exact List.mem_append_left _ (h.closed m hm i hi k hk)
    · rw [List.mem_singleton.1 hm] at hi hk
      exact List.mem_append_left _ (hnm i hi k hk)
  · dsimp only
    rw [hcl]; omega
theorem Laid.stT_at (h : Laid T N n f order p A) {j : Nat} (hj : j ∈ order) : stT A A.use (p j + 1) = some (hdrT (T j)) := by
  obtain ⟨h1, h2, o⟩ := h.at_ j hj
  exact o.st (hdrT_may _) (by rw [h.uf]; exact h1) (by rw [hl_nat]; exact h2)
theorem Laid.headT_at (h : Laid T N n f order p A) {j : Nat} (hj : j ∈ order) : headT A (p j + 1) = some (hdrT (T j)) := by
  unfold headT; rw [h.stT_at hj]
theorem Laid.cell_at (h : Laid T N n f order p A) {j i : Nat} (hj : j ∈ order) (hi : i < lenT (T j)) : cellO A (p j + 1) (i : Int) = (cellV N (fun m => p m + 1) (T j) i, 0) := by
  obtain ⟨h1, h2, o⟩ := h.at_ j hj
  have hc := o.cells i (by rw [hl_nat]; exact hi)
  have hp : placeT A (p j + 1) (i : Int) = some (p j + 1 + i) := by
    unfold placeT
    rw [h.headT_at hj]
    dsimp only
    rw [if_pos (by rw [hdrT_l]; omega), Int.toNat_natCast]
  unfold cellO
  rw [hp]
  dsimp only
  rw [List.getD_eq_getElem?_getD, hc]; rfl
theorem Laid.okR (h : Laid T N n f order p A) {roots : List (Option Nat)} (hr : ∀ o ∈ roots, ∀ j, o = some j → j ∈ order) : okR A (roots.map (rv p)) = true := by
  unfold V.okR
  rw [List.all_eq_true]
  intro x hx
  obtain ⟨o, ho, rfl⟩ := List.mem_map.1 hx
  cases o with
  | none => rfl
  | some j =>
    have := h.headT_at (hr _ ho j rfl)
    show (decide (p j + 1 = 0) || (headT A (p j + 1)).isSome) = true
    rw [this]; simp
theorem Laid.rv_lt (h : Laid T N n f order p A) {roots : List (Option Nat)} (hr : ∀ o ∈ roots, ∀ j, o = some j → j ∈ order) : ∀ y ∈ roots.map (rv p), y < 18446744073709551616 := by
  intro x hx
  obtain ⟨o, ho, rfl⟩ := List.mem_map.1 hx
  cases o with
  | none => show 0 < 18446744073709551616; decide
  | some j =>
    have h1 := (h.at_ j (hr _ ho j rfl)).2.1
    have h2 := h.ok.useIn
    have h3 := h.ok.n
    show p j + 1 < _
    omega
/-- nobody names anybody -/
theorem expandN_plain {t : Th} (h : ∀ i, t.nm i = none) (q : List Nat) : ∀ i, expandN N t q i = q
  | 0 => rfl
  | i + 1 => by
    show pushO (expandN N t q i) (t.nm i) = q
    rw [h i, expandN_plain h q i]; rfl
theorem Walks.plain (h : ∀ j i, (T j).nm i = none) {k : Nat} {q Q : List Nat} (hw : Walks T N k q Q) : Q = q := by
  induction hw with
  | done _ => rfl
  | step hj _ ih => rw [ih]; exact expandN_plain (h _) _ _
theorem fold_nodup : ∀ (l q : List Nat), (q ++ l).Nodup → (l.map some).foldl pushO q = q ++ l
  | [], q, _ => by simp
  | a :: l, q, h => by
    have h' : (q ++ [a] ++ l).Nodup := by rw [List.append_assoc]; exact h
    have ha : a ∉ q := by
      rw [List.nodup_append] at h
      intro hm
      exact h.2.2 a hm a (List.mem_cons_self ..) rfl
    show (l.map some).foldl pushO (pushQ q a) = _
    have e : pushQ q a = q ++ [a] := by unfold pushQ; rw [if_neg ha]
    rw [e, fold_nodup l (q ++ [a]) h', List.append_assoc]; rfl
end
theorem map_rv (rl : List Nat) (p : Nat → Nat) : (rl.map some).map (rv p) = rl.map fun j => p j + 1 := by rw [List.map_map]; rfl
end Go.Proofs.Ytggpomialmpgoaa.V
