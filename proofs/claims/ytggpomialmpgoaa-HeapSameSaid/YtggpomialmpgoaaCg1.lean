/-
  Objects that name one another: what one is; where it stands; sizes.
-/
import Derived.Test.YtggpomialmpgoaaChA
namespace Go.Proofs.Ytggpomialmpgoaa.V
open Go Go.RowKit
set_option linter.unusedVariables false
set_option linter.unusedSimpArgs false
set_option maxRecDepth 100000

/-- an object: its header, which object a cell names, what else it holds -/
structure Th where
  hd : Hd
  nm : Nat → Option Nat
  vl : Nat → Nat
  may : MayT hd
  rf : ∀ i, i < hd.l.toNat → ∀ k, nm i = some k → refT hd i = true
  zr : ∀ i, i < hd.l.toNat → nm i = none → refT hd i = true → vl i = 0
def hdrT (t : Th) : Hd := t.hd
def lenT (t : Th) : Nat := t.hd.l.toNat
def namT (N : Nat) (t : Th) (i : Nat) : Option Nat := t.nm i
theorem hdrT_may (t : Th) : MayT (hdrT t) := t.may
theorem hdrT_l (t : Th) : (hdrT t).l = (lenT t : Nat) := by
  have := t.may.2.2.1
  unfold hdrT lenT
  omega
theorem namT_ref {N : Nat} {t : Th} {i k : Nat} (hi : i < lenT t) (h : namT N t i = some k) : refT (hdrT t) i = true := t.rf i hi k h
def cellV (N : Nat) (to : Nat → Nat) (t : Th) (i : Nat) : Nat :=
  match namT N t i with
  | some k => to k
  | none => t.vl i
theorem cellV_some {N : Nat} {to : Nat → Nat} {t : Th} {i k : Nat} (h : namT N t i = some k) : cellV N to t i = to k := by unfold cellV; rw [h]
theorem cellV_no {N : Nat} {to : Nat → Nat} {t : Th} {i : Nat} (h : namT N t i = none) : cellV N to t i = t.vl i := by unfold cellV; rw [h]
theorem cellV_none {N : Nat} {to to' : Nat → Nat} {t : Th} {i : Nat} (h : namT N t i = none) : cellV N to t i = cellV N to' t i := by unfold cellV; rw [h]
theorem cellV_zero {N : Nat} {to : Nat → Nat} {t : Th} {i : Nat} (hi : i < lenT t) (h : namT N t i = none) (hr : refT (hdrT t) i = true) : cellV N to t i = 0 := by
  rw [cellV_no h]; exact t.zr i hi h hr
/-- an object stands at a word -/
structure ObjAt (ws : List Nat) (p : Nat) (h : Hd) (v : Nat → Nat) : Prop where
  hd : ws[p]? = some (packT h)
  cells : ∀ i, i < h.l.toNat → ws[p + 1 + i]? = some (v i)
  gd : ws[p + h.l.toNat + 1]? = some (18446744073709551615 - packT h)
theorem ObjAt.congr {ws ws' : List Nat} {p : Nat} {h : Hd} {v v' : Nat → Nat} (o : ObjAt ws p h v) (hw : ∀ j, p ≤ j → j < p + h.l.toNat + 2 → ws'[j]? = ws[j]?) (hv : ∀ i, i < h.l.toNat → v' i = v i) : ObjAt ws' p h v' :=
  ⟨by rw [hw p (by omega) (by omega)]; exact o.hd, fun i hi => by rw [hw _ (by omega) (by omega), hv i hi]; exact o.cells i hi, by rw [hw _ (by omega) (by omega)]; exact o.gd⟩
theorem stT_of {A : Ar} {s : Sp} {p : Nat} {h : Hd} (hf : s.f ≤ p) (m : MayT h) (he : p + h.l.toNat + 2 ≤ s.e) (h1 : A.ws[p]? = some (packT h)) (h2 : A.ws[p + h.l.toNat + 1]? = some (18446744073709551615 - packT h)) : stT A s (p + 1) = some h := by
  unfold stT
  rw [if_pos (by omega), Nat.add_sub_cancel, h1]
  dsimp only
  rw [unp_pack m, if_pos ⟨decide_eq_true m, he, h2⟩]
theorem ObjAt.st {A : Ar} {s : Sp} {p : Nat} {h : Hd} {v : Nat → Nat} (o : ObjAt A.ws p h v) (m : MayT h) (hf : s.f ≤ p) (he : p + h.l.toNat + 2 ≤ s.e) : stT A s (p + 1) = some h := stT_of hf m he o.hd o.gd
/-! ### sizes -/
def szQ (T : Nat → Th) (q : List Nat) : Nat := (q.map fun j => lenT (T j) + 2).sum
def posQ (T : Nat → Th) (q : List Nat) (t : Nat) : Nat := szQ T (q.take t)
theorem szQ_append (T : Nat → Th) (a b : List Nat) : szQ T (a ++ b) = szQ T a + szQ T b := by unfold szQ; rw [List.map_append, List.sum_append]
theorem szQ_one (T : Nat → Th) (j : Nat) : szQ T [j] = lenT (T j) + 2 := by simp [szQ]
theorem posQ_succ {T : Nat → Th} {q : List Nat} {t j : Nat} (h : q[t]? = some j) : posQ T q (t + 1) = posQ T q t + lenT (T j) + 2 := by
  unfold posQ; rw [take_snoc h, szQ_append, szQ_one]; omega
theorem posQ_le (T : Nat → Th) (q : List Nat) (t : Nat) : posQ T q t ≤ szQ T q := by
  have : q = q.take t ++ q.drop t := (List.take_append_drop t q).symm
  unfold posQ
  conv => rhs; rw [this, szQ_append]
  omega
theorem posQ_all {T : Nat → Th} {q : List Nat} {t : Nat} (h : q.length ≤ t) : posQ T q t = szQ T q := by unfold posQ; rw [List.take_of_length_le h]
theorem posQ_mono {T : Nat → Th} {q : List Nat} {t u : Nat} (h : t ≤ u) : posQ T q t ≤ posQ T q u := by
  have e : q.take t = (q.take u).take t := by rw [List.take_take, Nat.min_eq_left h]
  have := posQ_le T (q.take u) t
  unfold posQ at this ⊢
  rw [e]; exact this
theorem posQ_append {T : Nat → Th} {q r : List Nat} {t : Nat} (h : t ≤ q.length) : posQ T (q ++ r) t = posQ T q t := by unfold posQ; rw [List.take_append_of_le_length h]
theorem szQ_sub (T : Nat → Th) : ∀ (q r : List Nat), q.Nodup → (∀ k ∈ q, k ∈ r) → szQ T q ≤ szQ T r
  | [], r, _, _ => Nat.zero_le _
  | a :: q, r, hn, h => by
    rw [List.nodup_cons] at hn
    have hp := List.perm_cons_erase (h a (List.mem_cons_self ..))
    have e : szQ T r = lenT (T a) + 2 + szQ T (r.erase a) := by
      unfold szQ
      rw [(hp.map _).sum_nat]; rfl
    have ih := szQ_sub T q (r.erase a) hn.2 fun k hk => by
      have : k ≠ a := fun e => hn.1 (e ▸ hk)
      exact (List.mem_erase_of_ne this).2 (h k (List.mem_cons_of_mem _ hk))
    have e2 : szQ T (a :: q) = lenT (T a) + 2 + szQ T q := rfl
    omega
theorem szQ_len (T : Nat → Th) : ∀ q : List Nat, 2 * q.length ≤ szQ T q
  | [] => Nat.le_refl _
  | a :: q => by have := szQ_len T q; have e : szQ T (a :: q) = lenT (T a) + 2 + szQ T q := rfl; rw [List.length_cons]; omega
end Go.Proofs.Ytggpomialmpgoaa.V
