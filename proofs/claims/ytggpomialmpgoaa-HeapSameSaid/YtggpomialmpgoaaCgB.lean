/-
  Objects that name one another, moved: what is met from a list on (turned from the same text over things of another chapter).
-/
import Derived.Test.YtggpomialmpgoaaCg1
namespace Go.Proofs.Ytggpomialmpgoaa.V
open Go Go.RowKit
set_option linter.unusedVariables false
set_option linter.unusedSimpArgs false
set_option maxRecDepth 100000

theorem idxOf_at {q : List Nat} (hn : q.Nodup) {t j : Nat} (h : q[t]? = some j) : q.idxOf j = t := by
  induction q generalizing t with
  | nil => cases h
  | cons a q ih =>
    rw [List.nodup_cons] at hn
    cases t with
    | zero =>
      injection h with h; subst h
      simp [List.idxOf_cons]
    | succ t =>
      rw [List.getElem?_cons_succ] at h
      have hne : a ≠ j := fun e => hn.1 (e ▸ List.mem_of_getElem? h)
      rw [List.idxOf_cons]
      have : (a == j) = false := by simpa using hne
      rw [this, ih hn.2 h]; rfl
/-- where a thing stands that was moved -/
def toq (T : Nat → Th) (nf : Nat) (q : List Nat) (j : Nat) : Nat := nf + posQ T q (q.idxOf j) + 1
theorem toq_at {T : Nat → Th} {nf : Nat} {q : List Nat} (hn : q.Nodup) {t j : Nat} (h : q[t]? = some j) : toq T nf q j = nf + posQ T q t + 1 := by unfold toq; rw [idxOf_at hn h]
theorem toq_snoc {T : Nat → Th} {nf : Nat} {q r : List Nat} (hn : (q ++ r).Nodup) {m : Nat} (h : m ∈ q) : toq T nf (q ++ r) m = toq T nf q m := by
  obtain ⟨t, ht, rfl⟩ := List.getElem_of_mem h
  have h1 : q[t]? = some q[t] := List.getElem?_eq_getElem ht
  have h2 : (q ++ r)[t]? = some q[t] := by rw [List.getElem?_append_left ht]; exact h1
  rw [toq_at hn h2, toq_at (List.nodup_append.1 hn).1 h1, posQ_append (by omega)]
/-- things that stand in an arena -/
structure Laid (T : Nat → Th) (N n f : Nat) (order : List Nat) (p : Nat → Nat) (A : Ar) : Prop where
  ok : A.Ok
  nn : A.n = n
  opn : A.opn = false
  uf : A.use.f = f
  at_ : ∀ j ∈ order, f ≤ p j ∧ p j + lenT (T j) + 2 ≤ A.use.e ∧ ObjAt A.ws (p j) (hdrT (T j)) (cellV N (fun m => p m + 1) (T j))
  apart : ∀ j ∈ order, ∀ k ∈ order, j ≠ k → p j + lenT (T j) + 2 ≤ p k ∨ p k + lenT (T k) + 2 ≤ p j
  nd : order.Nodup
  fit : szQ T order ≤ n
  closed : ∀ j ∈ order, ∀ i, i < lenT (T j) → ∀ k, namT N (T j) i = some k → k ∈ order
/-- what a cell holds: of what was looked at already, the new place; else the old one -/
def valQ (T : Nat → Th) (N nf : Nat) (p : Nat → Nat) (q : List Nat) (k c t j i : Nat) : Nat :=
  if t < k ∨ (t = k ∧ i < c) then cellV N (toq T nf q) (T j) i else cellV N (fun m => p m + 1) (T j) i
structure Mid (T : Nat → Th) (N n f : Nat) (order : List Nat) (p : Nat → Nat) (A0 : Ar) (q : List Nat) (k c : Nat) (A : Ar) : Prop where
  ok : A.Ok
  nn : A.n = n
  opn : A.opn = true
  use : A.use = A0.use
  nxt : A.nxt = ⟨n - f, n - f + szQ T q⟩
  new : ∀ t j, q[t]? = some j → ObjAt A.ws (n - f + posQ T q t) (hdrT (T j)) (valQ T N (n - f) p q k c t j)
  old : ∀ j ∈ order, j ∉ q → ObjAt A.ws (p j) (hdrT (T j)) (cellV N (fun m => p m + 1) (T j))
  fwd : ∀ t j, q[t]? = some j → A.ws[p j]? = some (4 * (n - f + posQ T q t + 1))
  nd : q.Nodup
  sub : ∀ j ∈ q, j ∈ order
  seen : ∀ t j i m, q[t]? = some j → (t < k ∨ (t = k ∧ i < c)) → i < lenT (T j) → namT N (T j) i = some m → m ∈ q
  rest : ∀ j, n - f + szQ T q ≤ j → j < n - f + n → A.ws[j]? = A0.ws[j]?
theorem hl_nat (t : Th) : (hdrT t).l.toNat = lenT t := by rw [hdrT_l, Int.toNat_natCast]
section
variable {T : Nat → Th} {N n f : Nat} {order : List Nat} {p : Nat → Nat} {A0 A : Ar} {q : List Nat} {k c : Nat}
theorem Laid.space (h : Laid T N n f order p A0) : (f = 0 ∨ f = n) ∧ A0.use.e ≤ f + n := by
  have h1 := h.ok.use; have h2 := h.ok.use1
  rw [h.uf, h.nn] at h1 h2
  exact ⟨h1, h2.2⟩
theorem Mid.fits (h : Laid T N n f order p A0) (m : Mid T N n f order p A0 q k c A) : szQ T q ≤ n := Nat.le_trans (szQ_sub T q order m.nd m.sub) h.fit
theorem Mid.start (h : Laid T N n f order p A0) : (openT A0).2 = 0 ∧ Mid T N n f order p A0 [] 0 0 (openT A0).1 := by
  have e : openT A0 = ({ A0 with opn := true, nxt := ⟨A0.n - A0.use.f, A0.n - A0.use.f⟩ }, 0) := by unfold openT; rw [h.opn]; rfl
  have ok := openT_ok h.ok
  rw [e] at ok ⊢
  refine ⟨rfl, ok, h.nn, rfl, rfl, ?_, fun t j ht => (by cases ht), fun j hj _ => (h.at_ j hj).2.2, fun t j ht => (by cases ht), List.nodup_nil, fun j hj => (by cases hj), fun t j i m ht => (by cases ht), fun j _ _ => rfl⟩
  dsimp only
  rw [h.nn, h.uf]
  simp [szQ]
/-- a forwarded one -/
theorem Mid.known (h : Laid T N n f order p A0) (m : Mid T N n f order p A0 q k c A) {j : Nat} (hj : j ∈ q) : copyT A (p j + 1) = (A, toq T (n - f) q j, 0) := by
  obtain ⟨t, ht, rfl⟩ := List.getElem_of_mem hj
  have ht' : q[t]? = some q[t] := List.getElem?_eq_getElem ht
  have hf := m.fwd t _ ht'
  obtain ⟨hs, hue⟩ := h.space
  obtain ⟨h1, h2, _⟩ := h.at_ _ (m.sub _ hj)
  have hle := posQ_le T q (t + 1)
  rw [posQ_succ ht'] at hle
  have hst : stT A A.nxt (n - f + posQ T q t + 1) = some (hdrT (T q[t])) := by
    refine (m.new t _ ht').st (hdrT_may _) ?_ ?_
    · rw [m.nxt]; dsimp only; omega
    · rw [m.nxt, hl_nat]; dsimp only; omega
  have hgd : A.ws.getD (p q[t] + 1 - 1) 0 = 4 * (n - f + posQ T q t + 1) := by rw [Nat.add_sub_cancel, List.getD_eq_getElem?_getD, hf]; rfl
  unfold copyT
  rw [m.opn, if_neg (by decide), if_neg (by omega), if_neg (by rw [m.use, h.uf]; omega), hgd]
  rw [show 4 * (n - f + posQ T q t + 1) % 4 = 0 by omega, show 4 * (n - f + posQ T q t + 1) / 4 = n - f + posQ T q t + 1 by omega, hst, if_pos ⟨rfl, rfl⟩, toq_at m.nd ht']
theorem Mid.fresh (h : Laid T N n f order p A0) (m : Mid T N n f order p A0 q k c A) (hk : k ≤ q.length ∧ (k = q.length → c = 0)) {j : Nat} (hj : j ∈ order) (hq : j ∉ q) :
    ∃ A', copyT A (p j + 1) = (A', toq T (n - f) (q ++ [j]) j, 0) ∧ Mid T N n f order p A0 (q ++ [j]) k c A' := by
  obtain ⟨hs, hue⟩ := h.space
  obtain ⟨h1, h2, _⟩ := h.at_ j hj
  have ho := m.old j hj hq
  have hnd : (q ++ [j]).Nodup := by
    rw [List.nodup_append]
    refine ⟨m.nd, by simp, fun a ha b hb => ?_⟩
    rw [List.mem_singleton.1 hb]; rintro rfl; exact hq ha
  have hsub : ∀ a ∈ q ++ [j], a ∈ order := fun a ha => by
    rcases List.mem_append.1 ha with ha | ha
    · exact m.sub a ha
    · rw [List.mem_singleton.1 ha]; exact hj
  have hsz : szQ T (q ++ [j]) ≤ n := Nat.le_trans (szQ_sub T _ order hnd hsub) h.fit
  have hsz' := hsz
  rw [szQ_append, szQ_one] at hsz
  have hl := m.ok.len
  rw [m.nn] at hl
  have hm := hdrT_may (T j)
  have hln := hl_nat (T j)
  have hst : stT A A.use (p j + 1) = some (hdrT (T j)) := ho.st hm (by rw [m.use, h.uf]; exact h1) (by rw [m.use, hln]; exact h2)
  have hhd := ho.hd
  have hgd : A.ws.getD (p j + 1 - 1) 0 = packT (hdrT (T j)) := by rw [Nat.add_sub_cancel, List.getD_eq_getElem?_getD, hhd]; rfl
  have hp4 : packT (hdrT (T j)) % 4 ≠ 0 := by have := hm.kind; unfold packT; omega
  have hX : ((A.ws.drop (p j + 1 - 1)).take (lenT (T j) + 2)).length = lenT (T j) + 2 := by
    rw [List.length_take, List.length_drop]; omega
  have hcp : copyT A (p j + 1) = ({ A with ws := (layL A.ws A.nxt.e ((A.ws.drop (p j + 1 - 1)).take (lenT (T j) + 2))).set (p j + 1 - 1) (4 * (A.nxt.e + 1)), nxt := ⟨A.nxt.f, A.nxt.e + lenT (T j) + 2⟩ }, A.nxt.e + 1, 0) := by
    unfold copyT
    rw [m.opn, if_neg (by decide), if_neg (by omega), if_neg (by rw [m.use, h.uf]; omega), hgd, if_neg (fun hh => hp4 hh.1), hst]
    dsimp only
    rw [hln, if_neg (by rw [m.nxt, m.nn]; dsimp only; omega)]
  have hok' := copyT_ok m.ok (p j + 1)
  rw [hcp] at hok'
  have hnx : A.nxt.e = n - f + szQ T q := by rw [m.nxt]
  have hat : (q ++ [j])[q.length]? = some j := by rw [List.getElem?_append_right (Nat.le_refl _), Nat.sub_self]; rfl
  have hpl : posQ T (q ++ [j]) q.length = szQ T q := by rw [posQ_append (Nat.le_refl _), posQ_all (Nat.le_refl _)]
  -- the words
  have hW : ∀ i, ((layL A.ws A.nxt.e ((A.ws.drop (p j + 1 - 1)).take (lenT (T j) + 2))).set (p j + 1 - 1) (4 * (A.nxt.e + 1)))[i]? =
      if i = p j then some (4 * (n - f + szQ T q + 1)) else if n - f + szQ T q ≤ i ∧ i < n - f + szQ T q + lenT (T j) + 2 then A.ws[p j + (i - (n - f + szQ T q))]? else A.ws[i]? := by
    intro i
    rw [List.getElem?_set, layL_len (by rw [hX, hnx]; omega), layL_get (by rw [hX, hnx]; omega), hX, hnx, Nat.add_sub_cancel]
    by_cases h5 : i = p j
    · rw [if_pos h5.symm, if_pos (by omega), if_pos h5]
    · rw [if_neg (Ne.symm h5), if_neg h5]
      by_cases h6 : i < n - f + szQ T q
      · rw [if_pos h6, if_neg (by omega)]
      · rw [if_neg h6]
        by_cases h7 : i < n - f + szQ T q + (lenT (T j) + 2)
        · rw [if_pos h7, if_pos (by omega), List.getElem?_take, if_pos (by omega), List.getElem?_drop]
        · rw [if_neg h7, if_neg (by omega)]
  refine ⟨_, ?_, hok', m.nn, m.opn, m.use, ?_, ?_, ?_, ?_, hnd, hsub, ?_, ?_⟩
  · rw [hcp, toq_at hnd hat, hpl, hnx]
  · dsimp only
    rw [hnx, m.nxt, szQ_append, szQ_one]
    simp only [Nat.add_assoc]
  · intro t i ht
    rcases Nat.lt_or_ge t q.length with hlt | hge
    · have ht' : q[t]? = some i := by rw [List.getElem?_append_left hlt] at ht; exact ht
      have hple := posQ_le T q (t + 1)
      rw [posQ_succ ht'] at hple
      rw [posQ_append (by omega)]
      refine (m.new t i ht').congr (fun a ha1 ha2 => ?_) (fun a ha => ?_)
      · rw [hl_nat] at ha2
        rw [hW, if_neg (by omega), if_neg (by omega)]
      · rw [hl_nat] at ha
        unfold valQ
        split
        · rename_i hh
          cases hnm : namT N (T i) a with
          | none => exact cellV_none hnm
          | some m' => rw [cellV_some hnm, cellV_some hnm, toq_snoc hnd (m.seen t i a m' ht' hh ha hnm)]
        · rfl
    · have hte : t = q.length := by
        have := (List.getElem?_eq_some_iff.1 ht).1
        rw [List.length_append, List.length_singleton] at this; omega
      subst hte
      rw [hat] at ht; injection ht with ht; subst ht
      rw [hpl]
      refine ⟨?_, fun a ha => ?_, ?_⟩
      · rw [hW, if_neg (by omega), if_pos (by omega), show p j + (n - f + szQ T q - (n - f + szQ T q)) = p j by omega]; exact ho.hd
      · have := ho.cells a ha
        rw [hln] at ha
        rw [hW, if_neg (by omega), if_pos (by omega), show p j + (n - f + szQ T q + 1 + a - (n - f + szQ T q)) = p j + 1 + a by omega, this]
        unfold valQ
        rw [if_neg]
        rintro (hh | ⟨hh, hh'⟩)
        · omega
        · have := hk.2 hh.symm; omega
      · rw [hln, hW, if_neg (by omega), if_pos (by omega), show p j + (n - f + szQ T q + lenT (T j) + 1 - (n - f + szQ T q)) = p j + lenT (T j) + 1 by omega]
        have := ho.gd
        rw [hln] at this
        exact this
  · intro i hi hni
    have hne : i ≠ j := fun e => hni (by rw [e]; simp)
    have hni' : i ∉ q := fun e => hni (List.mem_append_left _ e)
    obtain ⟨g1, g2, _⟩ := h.at_ i hi
    have hap := h.apart i hi j hj hne
    refine (m.old i hi hni').congr (fun a ha1 ha2 => ?_) fun _ _ => rfl
    rw [hl_nat] at ha2
    rw [hW, if_neg (by omega), if_neg (by omega)]
  · intro t i ht
    rcases Nat.lt_or_ge t q.length with hlt | hge
    · have ht' : q[t]? = some i := by rw [List.getElem?_append_left hlt] at ht; exact ht
      have hiq := List.mem_of_getElem? ht'
      obtain ⟨g1, g2, _⟩ := h.at_ i (m.sub i hiq)
      have hne : i ≠ j := fun e => hq (e ▸ hiq)
      have hap := h.apart i (m.sub i hiq) j hj hne
      rw [posQ_append (by omega), hW, if_neg (by omega), if_neg (by omega)]
      exact m.fwd t i ht'
    · have hte : t = q.length := by
        have := (List.getElem?_eq_some_iff.1 ht).1
        rw [List.length_append, List.length_singleton] at this; omega
      subst hte
      rw [hat] at ht; injection ht with ht; subst ht
      rw [hpl, hW, if_pos rfl]
  · intro t i a m' ht hh ha hnm
    rcases Nat.lt_or_ge t q.length with hlt | hge
    · have ht' : q[t]? = some i := by rw [List.getElem?_append_left hlt] at ht; exact ht
      exact List.mem_append_left _ (m.seen t i a m' ht' hh ha hnm)
    · exfalso
      have hte : t = q.length := by
        have := (List.getElem?_eq_some_iff.1 ht).1
        rw [List.length_append, List.length_singleton] at this; omega
      rcases hh with hh | ⟨hh, hh'⟩
      · omega
      · have := hk.2 (by omega); omega
  · intro a ha1 ha2
    rw [szQ_append, szQ_one] at ha1
    rw [hW, if_neg (by omega), if_neg (by omega)]
    exact m.rest a (by omega) ha2
def pushQ (q : List Nat) (j : Nat) : List Nat := if j ∈ q then q else q ++ [j]
theorem pushQ_mem {q : List Nat} {j : Nat} : j ∈ pushQ q j := by unfold pushQ; split <;> simp_all
theorem pushQ_len (q : List Nat) (j : Nat) : q.length ≤ (pushQ q j).length := by unfold pushQ; split <;> simp
/-- one that stands there is visited -/
theorem Mid.visit (h : Laid T N n f order p A0) (m : Mid T N n f order p A0 q k c A) (hk : k ≤ q.length ∧ (k = q.length → c = 0)) {j : Nat} (hj : j ∈ order) :
    ∃ A', visitT (A, 0) (p j + 1) = ((A', 0), toq T (n - f) (pushQ q j) j) ∧ Mid T N n f order p A0 (pushQ q j) k c A' := by
  by_cases hq : j ∈ q
  · have e := m.known h hq
    have e2 : pushQ q j = q := by unfold pushQ; rw [if_pos hq]
    refine ⟨A, ?_, by rw [e2]; exact m⟩
    unfold visitT
    rw [e2, e, if_pos rfl]
  · obtain ⟨A', e, m'⟩ := m.fresh h hk hj hq
    have e2 : pushQ q j = q ++ [j] := by unfold pushQ; rw [if_neg hq]
    refine ⟨A', ?_, by rw [e2]; exact m'⟩
    unfold visitT
    rw [e2, e, if_pos rfl]
theorem visit_zero {A : Ar} (ho : A.opn = true) : visitT (A, 0) 0 = ((A, 0), 0) := by
  have e : copyT A 0 = (A, 0, 0) := by unfold copyT; rw [ho, if_neg (by decide), if_pos rfl]
  unfold visitT
  rw [e, if_pos rfl]
end
end Go.Proofs.Ytggpomialmpgoaa.V
namespace Go.Proofs.Ytggpomialmpgoaa.V
open Go Go.RowKit
set_option linter.unusedVariables false
set_option linter.unusedSimpArgs false
set_option maxRecDepth 100000

def pushO (q : List Nat) (o : Option Nat) : List Nat :=
  match o with
  | some m => pushQ q m
  | none => q
def expandN (N : Nat) (t : Th) (q : List Nat) : Nat → List Nat
  | 0 => q
  | i + 1 => pushO (expandN N t q i) (namT N t i)
def expand (T : Nat → Th) (N : Nat) (q : List Nat) (j : Nat) : List Nat := expandN N (T j) q (lenT (T j))
/-- what is met from a list on -/
inductive Walks (T : Nat → Th) (N : Nat) : Nat → List Nat → List Nat → Prop
  | done {k : Nat} {q : List Nat} (hk : k = q.length) : Walks T N k q q
  | step {k : Nat} {q Q : List Nat} {j : Nat} (hj : q[k]? = some j) (h : Walks T N (k + 1) (expand T N q j) Q) : Walks T N k q Q
theorem Walks.uniq {T : Nat → Th} {N k : Nat} {q Q Q' : List Nat} (h : Walks T N k q Q) (h' : Walks T N k q Q') : Q = Q' := by
  induction h generalizing Q' with
  | done hk =>
    cases h' with
    | done _ => rfl
    | step hj _ => have := (List.getElem?_eq_some_iff.1 hj).1; omega
  | step hj _ ih =>
    cases h' with
    | done hk => have := (List.getElem?_eq_some_iff.1 hj).1; omega
    | step hj' h' => rw [hj] at hj'; injection hj' with e; subst e; exact ih h'
theorem pushQ_pre (q : List Nat) (j : Nat) : ∃ r, pushQ q j = q ++ r := by
  unfold pushQ; split
  · exact ⟨[], by simp⟩
  · exact ⟨[j], rfl⟩
theorem pushO_pre (q : List Nat) (o : Option Nat) : ∃ r, pushO q o = q ++ r := by
  cases o with
  | none => exact ⟨[], by simp [pushO]⟩
  | some j => exact pushQ_pre q j
theorem expandN_pre (N : Nat) (t : Th) (q : List Nat) : ∀ i, ∃ r, expandN N t q i = q ++ r
  | 0 => ⟨[], by simp [expandN]⟩
  | i + 1 => by
    obtain ⟨r, h⟩ := expandN_pre N t q i
    obtain ⟨r', h'⟩ := pushO_pre (expandN N t q i) (namT N t i)
    exact ⟨r ++ r', by show pushO _ _ = _; rw [h', h, List.append_assoc]⟩
theorem Walks.pre {T : Nat → Th} {N k : Nat} {q Q : List Nat} (h : Walks T N k q Q) : ∃ r, Q = q ++ r := by
  induction h with
  | done _ => exact ⟨[], by simp⟩
  | step hj _ ih =>
    obtain ⟨r, h⟩ := ih
    obtain ⟨r', h'⟩ := expandN_pre N _ _ _
    exact ⟨r' ++ r, by rw [h]; unfold expand; rw [h', List.append_assoc]⟩
theorem foldO_pre : ∀ (l : List (Option Nat)) (q : List Nat), ∃ r, l.foldl pushO q = q ++ r
  | [], q => ⟨[], by simp⟩
  | o :: l, q => by
    obtain ⟨r, h⟩ := pushO_pre q o
    obtain ⟨r', h'⟩ := foldO_pre l (pushO q o)
    exact ⟨r ++ r', by rw [List.foldl_cons, h', h, List.append_assoc]⟩
def rv (p : Nat → Nat) (o : Option Nat) : Nat :=
  match o with
  | some j => p j + 1
  | none => 0
def pNew (T : Nat → Th) (nf : Nat) (Q : List Nat) (j : Nat) : Nat := nf + posQ T Q (Q.idxOf j)
section
variable {T : Nat → Th} {N n f : Nat} {order : List Nat} {p : Nat → Nat} {A0 A : Ar} {q : List Nat} {k c : Nat}
theorem Mid.head (h : Laid T N n f order p A0) (m : Mid T N n f order p A0 q k c A) {t j : Nat} (hj : q[t]? = some j) :
    stT A A.nxt (n - f + posQ T q t + 1) = some (hdrT (T j)) ∧ headT A (n - f + posQ T q t + 1) = some (hdrT (T j)) := by
  obtain ⟨hs, hue⟩ := h.space
  have hle := posQ_le T q (t + 1)
  rw [posQ_succ hj] at hle
  have hfit := m.fits h
  have hst : stT A A.nxt (n - f + posQ T q t + 1) = some (hdrT (T j)) := by
    refine (m.new t _ hj).st (hdrT_may _) ?_ ?_
    · rw [m.nxt]; dsimp only; omega
    · rw [m.nxt, hl_nat]; dsimp only; omega
  refine ⟨hst, ?_⟩
  have hno : stT A A.use (n - f + posQ T q t + 1) = none := by
    unfold stT
    rw [if_neg]
    rw [m.use, h.uf]
    omega
  unfold headT
  rw [hno]
  dsimp only
  rw [m.opn, if_pos rfl, hst]
theorem Mid.place (h : Laid T N n f order p A0) (m : Mid T N n f order p A0 q k c A) {t j i : Nat} (hj : q[t]? = some j) (hi : i < lenT (T j)) : placeT A (n - f + posQ T q t + 1) (i : Int) = some (n - f + posQ T q t + 1 + i) := by
  unfold placeT
  rw [(m.head h hj).2]
  dsimp only
  rw [if_pos (by rw [hdrT_l]; omega), Int.toNat_natCast]
theorem Mid.put (h : Laid T N n f order p A0) (m : Mid T N n f order p A0 q k c A) {j : Nat} (hj : q[k]? = some j) (hc : c < lenT (T j)) (hn : ∀ m', namT N (T j) c = some m' → m' ∈ q) (hx : cellV N (toq T (n - f) q) (T j) c < 18446744073709551616) :
    Mid T N n f order p A0 q k (c + 1) (A.put (n - f + posQ T q k + 1 + c) (cellV N (toq T (n - f) q) (T j) c)) := by
  obtain ⟨hs, hue⟩ := h.space
  have hle := posQ_le T q (k + 1)
  rw [posQ_succ hj] at hle
  have hfit := m.fits h
  have hl := m.ok.len
  rw [m.nn] at hl
  have hW : ∀ i, (A.put (n - f + posQ T q k + 1 + c) (cellV N (toq T (n - f) q) (T j) c)).ws[i]? = if i = n - f + posQ T q k + 1 + c then some (cellV N (toq T (n - f) q) (T j) c) else A.ws[i]? := by
    intro i
    show (A.ws.set _ _)[i]? = _
    rw [List.getElem?_set]
    by_cases h5 : i = n - f + posQ T q k + 1 + c
    · rw [if_pos h5.symm, if_pos (by omega), if_pos h5]
    · rw [if_neg (Ne.symm h5), if_neg h5]
  refine ⟨m.ok.put hx, m.nn, m.opn, m.use, m.nxt, fun t i ht => ?_, fun i hi hni => ?_, fun t i ht => ?_, m.nd, m.sub, fun t i a m' ht hh ha hnm => ?_, fun a ha1 ha2 => ?_⟩
  · have ho := m.new t i ht
    have hlt := posQ_le T q (t + 1)
    rw [posQ_succ ht] at hlt
    rcases Nat.lt_trichotomy t k with h6 | h6 | h6
    · have hm := posQ_mono (T := T) (q := q) (t := t + 1) (u := k) (by omega)
      rw [posQ_succ ht] at hm
      refine ho.congr (fun a ha1 ha2 => ?_) fun a ha => ?_
      · rw [hl_nat] at ha2
        rw [hW, if_neg (by omega)]
      · unfold valQ
        rw [if_pos (.inl h6), if_pos (.inl h6)]
    · subst h6
      rw [hj] at ht; injection ht with ht; subst ht
      refine ⟨by rw [hW, if_neg (by omega)]; exact ho.hd, fun a ha => ?_, by rw [hl_nat, hW, if_neg (by omega)]; have := ho.gd; rw [hl_nat] at this; exact this⟩
      have := ho.cells a ha
      rw [hW]
      by_cases h7 : a = c
      · subst h7
        rw [if_pos rfl]
        unfold valQ
        rw [if_pos (.inr ⟨rfl, by omega⟩)]
      · rw [if_neg (by omega), this]
        unfold valQ
        by_cases h8 : a < c
        · rw [if_pos (.inr ⟨rfl, h8⟩), if_pos (.inr ⟨rfl, by omega⟩)]
        · rw [if_neg (by omega), if_neg (by omega)]
    · have hm := posQ_mono (T := T) (q := q) (t := k + 1) (u := t) (by omega)
      rw [posQ_succ hj] at hm
      refine ho.congr (fun a ha1 ha2 => ?_) fun a ha => ?_
      · rw [hW, if_neg (by omega)]
      · unfold valQ
        rw [if_neg (by omega), if_neg (by omega)]
  · obtain ⟨g1, g2, _⟩ := h.at_ i hi
    refine (m.old i hi hni).congr (fun a ha1 ha2 => ?_) fun _ _ => rfl
    rw [hl_nat] at ha2
    rw [hW, if_neg (by omega)]
  · obtain ⟨g1, g2, _⟩ := h.at_ i (m.sub i (List.mem_of_getElem? ht))
    rw [hW, if_neg (by omega)]
    exact m.fwd t i ht
  · rcases hh with hh | ⟨hh, hh'⟩
    · exact m.seen t i a m' ht (.inl hh) ha hnm
    · by_cases h7 : a = c
      · subst h7; subst hh
        rw [hj] at ht; injection ht with ht; subst ht
        exact hn m' hnm
      · exact m.seen t i a m' ht (.inr ⟨hh, by omega⟩) ha hnm
  · rw [hW, if_neg (by omega)]
    exact m.rest a ha1 ha2
theorem Mid.skip (m : Mid T N n f order p A0 q k c A) {j : Nat} (hj : q[k]? = some j) (hn : namT N (T j) c = none) : Mid T N n f order p A0 q k (c + 1) A := by
  refine ⟨m.ok, m.nn, m.opn, m.use, m.nxt, fun t i ht => (m.new t i ht).congr (fun _ _ _ => rfl) fun a ha => ?_, m.old, m.fwd, m.nd, m.sub, fun t i a m' ht hh ha hnm => ?_, m.rest⟩
  · unfold valQ
    by_cases h7 : t = k ∧ a = c
    · obtain ⟨rfl, rfl⟩ := h7
      rw [hj] at ht; injection ht with ht; subst ht
      rw [if_pos (.inr ⟨rfl, by omega⟩), if_neg (by omega)]
      exact cellV_none hn
    · by_cases h8 : t < k ∨ (t = k ∧ a < c)
      · rw [if_pos h8, if_pos (by omega)]
      · rw [if_neg h8, if_neg (by omega)]
  · rcases hh with hh | ⟨hh, hh'⟩
    · exact m.seen t i a m' ht (.inl hh) ha hnm
    · by_cases h7 : a = c
      · subst h7; subst hh
        rw [hj] at ht; injection ht with ht; subst ht
        rw [hn] at hnm; cases hnm
      · exact m.seen t i a m' ht (.inr ⟨hh, by omega⟩) ha hnm
theorem Mid.next (m : Mid T N n f order p A0 q k c A) {j : Nat} (hj : q[k]? = some j) (hc : lenT (T j) ≤ c) : Mid T N n f order p A0 q (k + 1) 0 A := by
  refine ⟨m.ok, m.nn, m.opn, m.use, m.nxt, fun t i ht => (m.new t i ht).congr (fun _ _ _ => rfl) fun a ha => ?_, m.old, m.fwd, m.nd, m.sub, fun t i a m' ht hh ha hnm => ?_, m.rest⟩
  · rw [hl_nat] at ha
    unfold valQ
    by_cases h6 : t = k
    · subst h6
      rw [hj] at ht; injection ht with ht; subst ht
      rw [if_pos (.inl (by omega)), if_pos (.inr ⟨rfl, by omega⟩)]
    · by_cases h8 : t < k
      · rw [if_pos (.inl (by omega)), if_pos (.inl h8)]
      · rw [if_neg (by omega), if_neg (by omega)]
  · by_cases h6 : t = k
    · subst h6
      have ht' := ht
      rw [hj] at ht'; injection ht' with ht'; subst ht'
      exact m.seen t j a m' ht (.inr ⟨rfl, by omega⟩) ha hnm
    · exact m.seen t i a m' ht (.inl (by omega)) ha hnm
theorem getElem?_pre {q r : List Nat} {t j : Nat} (h : q[t]? = some j) : (q ++ r)[t]? = some j := by
  rw [List.getElem?_append_left (List.getElem?_eq_some_iff.1 h).1]; exact h
theorem toq_lt64 (h : Laid T N n f order p A0) (m : Mid T N n f order p A0 q k c A) (j : Nat) : toq T (n - f) q j < 18446744073709551616 := by
  have hfit := m.fits h
  have := posQ_le T q (q.idxOf j)
  have hn := m.ok.n
  rw [m.nn] at hn
  unfold toq; omega
/-- one object is looked at, cell by cell -/
theorem Mid.scan (h : Laid T N n f order p A0) (m : Mid T N n f order p A0 q k 0 A) {j : Nat} (hj : q[k]? = some j) : ∀ c, c ≤ lenT (T j) →
    ∃ A', scanN (hdrT (T j)) (n - f + posQ T q k + 1) c (A, 0) = (A', 0) ∧ Mid T N n f order p A0 (expandN N (T j) q c) k c A'
  | 0, _ => ⟨A, rfl, m⟩
  | c + 1, hc => by
    obtain ⟨A', e, m'⟩ := Mid.scan h m hj c (by omega)
    obtain ⟨r, hr⟩ := expandN_pre N (T j) q c
    have hkl := (List.getElem?_eq_some_iff.1 hj).1
    have hj' : (expandN N (T j) q c)[k]? = some j := by rw [hr]; exact getElem?_pre hj
    have hpk : posQ T (expandN N (T j) q c) k = posQ T q k := by rw [hr, posQ_append (by omega)]
    have hkl' : k < (expandN N (T j) q c).length := (List.getElem?_eq_some_iff.1 hj').1
    have hplace := m'.place h hj' (i := c) (by omega)
    rw [hpk] at hplace
    have hcell := (m'.new k j hj').cells c (by rw [hl_nat]; omega)
    rw [hpk] at hcell
    have hv : valQ T N (n - f) p (expandN N (T j) q c) k c k j c = cellV N (fun m => p m + 1) (T j) c := by unfold valQ; rw [if_neg (by omega)]
    rw [hv] at hcell
    have hco : cellO A' (n - f + posQ T q k + 1) (c : Int) = (cellV N (fun m => p m + 1) (T j) c, 0) := by
      unfold cellO
      rw [hplace]
      dsimp only
      rw [List.getD_eq_getElem?_getD, hcell]; rfl
    have hjo := m'.sub j (List.mem_of_getElem? hj')
    by_cases hrf : refT (hdrT (T j)) c = true
    · have e1 : scanN (hdrT (T j)) (n - f + posQ T q k + 1) (c + 1) (A, 0) = ((setO (visitT (A', 0) (cellO A' (n - f + posQ T q k + 1) (c : Int)).1).1.1 (n - f + posQ T q k + 1) (c : Int) (visitT (A', 0) (cellO A' (n - f + posQ T q k + 1) (c : Int)).1).2).1, (visitT (A', 0) (cellO A' (n - f + posQ T q k + 1) (c : Int)).1).1.2) := by
        conv => lhs; unfold scanN
        rw [if_pos hrf, e]
      rw [e1, hco]
      dsimp only
      cases hnm : namT N (T j) c with
      | none =>
        have hz := cellV_zero (to := fun m => p m + 1) (by omega) hnm hrf
        have hz2 := cellV_zero (to := toq T (n - f) (expandN N (T j) q c)) (by omega) hnm hrf
        rw [hz, visit_zero m'.opn]
        dsimp only
        refine ⟨_, rfl, ?_⟩
        have hset : (setO A' (n - f + posQ T q k + 1) (c : Int) 0).1 = A'.put (n - f + posQ T q k + 1 + c) 0 := by unfold setO; rw [hplace]
        rw [hset]
        have mp := m'.put h hj' (by omega) (fun m' hm => by rw [hnm] at hm; cases hm) (by rw [hz2]; decide)
        rw [hz2, hpk] at mp
        show Mid T N n f order p A0 (pushO (expandN N (T j) q c) (namT N (T j) c)) k (c + 1) _
        rw [hnm]
        exact mp
      | some x =>
        have hxo := h.closed j hjo c (by omega) x hnm
        rw [cellV_some hnm]
        obtain ⟨A2, ev, m2⟩ := m'.visit h ⟨by omega, fun hh => by omega⟩ hxo
        rw [ev]
        dsimp only
        refine ⟨_, rfl, ?_⟩
        obtain ⟨r2, hr2⟩ := pushQ_pre (expandN N (T j) q c) x
        have hj2 : (pushQ (expandN N (T j) q c) x)[k]? = some j := by rw [hr2]; exact getElem?_pre hj'
        have hpk2 : posQ T (pushQ (expandN N (T j) q c) x) k = posQ T q k := by rw [hr2, posQ_append (by omega), hpk]
        have hplace2 := m2.place h hj2 (i := c) (by omega)
        rw [hpk2] at hplace2
        have hset : (setO A2 (n - f + posQ T q k + 1) (c : Int) (toq T (n - f) (pushQ (expandN N (T j) q c) x) x)).1 = A2.put (n - f + posQ T q k + 1 + c) (toq T (n - f) (pushQ (expandN N (T j) q c) x) x) := by unfold setO; rw [hplace2]
        rw [hset]
        have mp := m2.put h hj2 (by omega) (fun m' hm => by rw [hnm] at hm; injection hm with hm; subst hm; exact pushQ_mem) (by rw [cellV_some hnm]; exact toq_lt64 h m2 x)
        rw [cellV_some hnm, hpk2] at mp
        show Mid T N n f order p A0 (pushO (expandN N (T j) q c) (namT N (T j) c)) k (c + 1) _
        rw [hnm]
        exact mp
    · have e1 : scanN (hdrT (T j)) (n - f + posQ T q k + 1) (c + 1) (A, 0) = (A', 0) := by
        conv => lhs; unfold scanN
        rw [if_neg hrf, e]
      have hnm : namT N (T j) c = none := by
        cases hnm : namT N (T j) c with
        | none => rfl
        | some x => exact absurd (namT_ref (by omega) hnm) hrf
      refine ⟨A', e1, ?_⟩
      show Mid T N n f order p A0 (pushO (expandN N (T j) q c) (namT N (T j) c)) k (c + 1) _
      rw [hnm]
      exact m'.skip hj' hnm
def ptr (T : Nat → Th) (nf : Nat) (q : List Nat) (k : Nat) : Nat × Bool := if k < q.length then (nf + posQ T q k + 1, true) else (0, false)
theorem Mid.last (h : Laid T N n f order p A0) (m : Mid T N n f order p A0 q k c A) (t : Nat) (ht : t ≤ q.length) : lastT A (n - f + posQ T q t + 1) = ptr T (n - f) q t := by
  have hsp : spT A = A.nxt := by unfold spT; rw [m.opn, if_pos rfl]
  unfold lastT ptr
  rw [hsp]
  by_cases hlt : t < q.length
  · obtain ⟨j, hj⟩ : ∃ j, q[t]? = some j := ⟨_, List.getElem?_eq_getElem hlt⟩
    rw [(m.head h hj).1, if_pos hlt]
  · have e : posQ T q t = szQ T q := posQ_all (by omega)
    have hno : stT A A.nxt (n - f + posQ T q t + 1) = none := by
      unfold stT
      rw [if_neg]
      rw [m.nxt, e]
      dsimp only
      omega
    rw [hno, if_neg hlt]
theorem Mid.after (h : Laid T N n f order p A0) (m : Mid T N n f order p A0 q k c A) {t j : Nat} (hj : q[t]? = some j) : afterT A (n - f + posQ T q t + 1) = ptr T (n - f) q (t + 1) := by
  have hsp : spT A = A.nxt := by unfold spT; rw [m.opn, if_pos rfl]
  have hlt := (List.getElem?_eq_some_iff.1 hj).1
  unfold afterT
  rw [if_neg (by omega), hsp, (m.head h hj).1]
  dsimp only
  rw [hl_nat, ← m.last h (t + 1) (by omega), posQ_succ hj]
  congr 1
  omega
theorem Mid.first (h : Laid T N n f order p A0) (m : Mid T N n f order p A0 q k c A) : afterT A 0 = ptr T (n - f) q 0 := by
  have hsp : spT A = A.nxt := by unfold spT; rw [m.opn, if_pos rfl]
  unfold afterT
  rw [if_pos rfl, hsp, ← m.last h 0 (by omega), m.nxt]
  rfl
theorem nodup_sub_len : ∀ (q r : List Nat), q.Nodup → (∀ k ∈ q, k ∈ r) → q.length ≤ r.length
  | [], r, _, _ => Nat.zero_le _
  | a :: q, r, hn, h => by
    rw [List.nodup_cons] at hn
    have hp := List.perm_cons_erase (h a (List.mem_cons_self ..))
    have ih := nodup_sub_len q (r.erase a) hn.2 fun k hk => by
      have : k ≠ a := fun e => hn.1 (e ▸ hk)
      exact (List.mem_erase_of_ne this).2 (h k (List.mem_cons_of_mem _ hk))
    have := hp.length_eq
    rw [List.length_cons] at this ⊢
    omega
theorem scan_all (h : Laid T N n f order p A0) : ∀ (fuel k : Nat) (q : List Nat) (A : Ar), Mid T N n f order p A0 q k 0 A → k ≤ q.length → order.length + 1 ≤ k + fuel →
    ∃ Q A', Walks T N k q Q ∧ scanAll fuel (A, 0) (ptr T (n - f) q k) = (A', 0) ∧ Mid T N n f order p A0 Q Q.length 0 A'
  | 0, k, q, A, m, hk, hf => by
    have := nodup_sub_len q order m.nd m.sub
    omega
  | fuel + 1, k, q, A, m, hk, hf => by
    by_cases hlt : k < q.length
    · obtain ⟨j, hj⟩ : ∃ j, q[k]? = some j := ⟨_, List.getElem?_eq_getElem hlt⟩
      obtain ⟨A1, e1, m1⟩ := m.scan h hj (lenT (T j)) (Nat.le_refl _)
      obtain ⟨r, hr⟩ := expandN_pre N (T j) q (lenT (T j))
      have hj1 : (expandN N (T j) q (lenT (T j)))[k]? = some j := by rw [hr]; exact getElem?_pre hj
      have m2 := m1.next hj1 (Nat.le_refl _)
      have hpk : posQ T (expandN N (T j) q (lenT (T j))) k = posQ T q k := by rw [hr, posQ_append (by omega)]
      have haf := m2.after h hj1
      rw [hpk] at haf
      have hkl1 := (List.getElem?_eq_some_iff.1 hj1).1
      obtain ⟨Q, A', hw, hs, mQ⟩ := scan_all h fuel (k + 1) _ A1 m2 (by omega) (by omega)
      refine ⟨Q, A', .step hj hw, ?_, mQ⟩
      have est : scanT (A, 0) (n - f + posQ T q k + 1) = (A1, 0) := by
        unfold scanT
        rw [(m.head h hj).2]
        show scanN (hdrT (T j)) _ (hdrT (T j)).l.toNat (A, 0) = _
        rw [hl_nat, e1]
      have ep : ptr T (n - f) q k = (n - f + posQ T q k + 1, true) := by unfold ptr; rw [if_pos hlt]
      rw [ep]
      show (if true = true then scanAll fuel (scanT (A, 0) (n - f + posQ T q k + 1)) (afterT (scanT (A, 0) (n - f + posQ T q k + 1)).1 (n - f + posQ T q k + 1)) else (A, 0)) = _
      rw [if_pos rfl, est]
      dsimp only
      rw [haf]
      exact hs
    · have hkq : k = q.length := by omega
      subst hkq
      have ep : ptr T (n - f) q q.length = (0, false) := by unfold ptr; rw [if_neg (by omega)]
      exact ⟨q, A, .done rfl, by rw [ep, scanAll_false], m⟩
theorem visits_all (h : Laid T N n f order p A0) : ∀ (l : List (Option Nat)) (q : List Nat) (A : Ar), (∀ o ∈ l, ∀ j, o = some j → j ∈ order) → Mid T N n f order p A0 q 0 0 A →
    ∃ A', visitsT (A, 0) (l.map (rv p)) = ((A', 0), l.map (rv (pNew T (n - f) (l.foldl pushO q)))) ∧ Mid T N n f order p A0 (l.foldl pushO q) 0 0 A'
  | [], q, A, _, m => ⟨A, rfl, m⟩
  | o :: l, q, A, ho, m => by
    have hl : ∀ o ∈ l, ∀ j, o = some j → j ∈ order := fun o' ho' => ho o' (List.mem_cons_of_mem _ ho')
    cases o with
    | none =>
      obtain ⟨A', e, m'⟩ := visits_all h l q A hl m
      refine ⟨A', ?_, m'⟩
      show ((visitsT (visitT (A, 0) 0).1 (l.map (rv p))).1, (visitT (A, 0) 0).2 :: (visitsT (visitT (A, 0) 0).1 (l.map (rv p))).2) = _
      rw [visit_zero m.opn]
      dsimp only
      rw [e]
      rfl
    | some j =>
      obtain ⟨A1, e1, m1⟩ := m.visit h ⟨Nat.zero_le _, fun _ => rfl⟩ (ho _ (List.mem_cons_self ..) j rfl)
      obtain ⟨A', e, m'⟩ := visits_all h l (pushQ q j) A1 hl m1
      refine ⟨A', ?_, m'⟩
      show ((visitsT (visitT (A, 0) (p j + 1)).1 (l.map (rv p))).1, (visitT (A, 0) (p j + 1)).2 :: (visitsT (visitT (A, 0) (p j + 1)).1 (l.map (rv p))).2) = _
      rw [e1]
      dsimp only
      rw [e]
      obtain ⟨r, hr⟩ := foldO_pre l (pushQ q j)
      have hnd := m'.nd
      have ht : toq T (n - f) (l.foldl pushO (pushQ q j)) j = toq T (n - f) (pushQ q j) j := by
        rw [hr] at hnd ⊢
        exact toq_snoc hnd pushQ_mem
      rw [← ht]
      rfl
/-- Collect, of things that name one another -/
theorem collect_laid (h : Laid T N n f order p A0) (roots : List (Option Nat)) (hr : ∀ o ∈ roots, ∀ j, o = some j → j ∈ order) (zero : Bool) :
    ∃ Q, Walks T N 0 (roots.foldl pushO []) Q ∧ (∀ j ∈ Q, j ∈ order) ∧ (collectT A0 (roots.map (rv p)) zero).2 = (roots.map (rv (pNew T (n - f) Q)), 0) ∧ Laid T N n (n - f) Q (pNew T (n - f) Q) (collectT A0 (roots.map (rv p)) zero).1 ∧
      (collectT A0 (roots.map (rv p)) zero).1.use.e = n - f + szQ T Q ∧
      (zero = true → ∀ a, f ≤ a → a < f + n → (collectT A0 (roots.map (rv p)) zero).1.ws[a]? = some 0) ∧
      (∀ a, n - f + szQ T Q ≤ a → a < n - f + n → (collectT A0 (roots.map (rv p)) zero).1.ws[a]? = A0.ws[a]?) := by
  obtain ⟨hs, hue⟩ := h.space
  obtain ⟨_, m0⟩ := Mid.start h
  obtain ⟨A1, e1, m1⟩ := visits_all h roots [] (openT A0).1 hr m0
  have hol : 2 * order.length ≤ n := Nat.le_trans (szQ_len T order) h.fit
  obtain ⟨Q, A2, hw, e2, m2⟩ := scan_all h (2 * n + 1) 0 _ A1 m1 (Nat.zero_le _) (by omega)
  have eC : collectT A0 (roots.map (rv p)) zero = ((closeT A2 zero).1, roots.map (rv (pNew T (n - f) (roots.foldl pushO []))), 0) := by
    unfold collectT
    rw [e1]
    dsimp only
    rw [m1.first h, h.nn, e2]
  obtain ⟨r, hpre⟩ := hw.pre
  have hnd := m2.nd
  have hroots : roots.map (rv (pNew T (n - f) (roots.foldl pushO []))) = roots.map (rv (pNew T (n - f) Q)) := by
    refine List.map_congr_left fun o ho => ?_
    cases o with
    | none => rfl
    | some j =>
      have hmem : j ∈ roots.foldl pushO [] := by
        have : ∀ (l : List (Option Nat)) (q : List Nat), some j ∈ l → j ∈ l.foldl pushO q := by
          intro l
          induction l with
          | nil => intro q hh; cases hh
          | cons o l ih =>
            intro q hh
            rw [List.foldl_cons]
            rcases List.mem_cons.1 hh with hh | hh
            · subst hh
              obtain ⟨r, hr⟩ := foldO_pre l (pushO q (some j))
              rw [hr]
              exact List.mem_append_left _ pushQ_mem
            · exact ih _ hh
        exact this roots [] ho
      have := toq_snoc (T := T) (nf := n - f) (q := roots.foldl pushO []) (r := r) (by rw [← hpre]; exact hnd) hmem
      rw [← hpre] at this
      show pNew T (n - f) (roots.foldl pushO []) j + 1 = pNew T (n - f) Q j + 1
      exact this.symm
  rw [eC, hroots]
  have hfit := m2.fits h
  have hlen := m2.ok.len
  rw [m2.nn] at hlen
  have eCl : closeT A2 zero = ({ A2 with ws := if zero = true then layL A2.ws A2.use.f (List.replicate A2.n 0) else A2.ws, use := A2.nxt, nxt := ⟨0, 0⟩, opn := false }, 0) := by
    unfold closeT; rw [m2.opn, if_neg (by decide)]
  have hcok := closeT_ok m2.ok zero
  rw [eCl] at hcok ⊢
  dsimp only at hcok ⊢
  have hW : ∀ a, (if zero = true then layL A2.ws A2.use.f (List.replicate A2.n 0) else A2.ws)[a]? = if zero = true ∧ f ≤ a ∧ a < f + n then some 0 else A2.ws[a]? := by
    intro a
    by_cases hz : zero = true
    · rw [if_pos hz, m2.use, h.uf, m2.nn, layL_get (by rw [List.length_replicate]; omega), List.length_replicate]
      by_cases h1 : a < f
      · rw [if_pos h1, if_neg (by omega)]
      · rw [if_neg h1]
        by_cases h2 : a < f + n
        · rw [if_pos h2, if_pos ⟨hz, by omega, h2⟩, List.getElem?_replicate, if_pos (by omega)]
        · rw [if_neg h2, if_neg (by omega)]
    · rw [if_neg hz, if_neg (fun hh => hz hh.1)]
  refine ⟨Q, hw, m2.sub, rfl, ⟨hcok, m2.nn, rfl, by show A2.nxt.f = _; rw [m2.nxt], fun j hj => ?_, fun j hj j' hj' hne => ?_, m2.nd, hfit, fun j hj i hi x hx => ?_⟩, by show A2.nxt.e = _; rw [m2.nxt], fun hz a ha1 ha2 => by rw [hW, if_pos ⟨hz, ha1, ha2⟩], fun a ha1 ha2 => by rw [hW, if_neg (by omega)]; exact m2.rest a ha1 ha2⟩
  · obtain ⟨t, ht, rfl⟩ := List.getElem_of_mem hj
    have ht' : Q[t]? = some Q[t] := List.getElem?_eq_getElem ht
    have hp : pNew T (n - f) Q Q[t] = n - f + posQ T Q t := by unfold pNew; rw [idxOf_at hnd ht']
    have hle := posQ_le T Q (t + 1)
    rw [posQ_succ ht'] at hle
    refine ⟨by rw [hp]; omega, by rw [hp]; show _ ≤ A2.nxt.e; rw [m2.nxt]; dsimp only; omega, ?_⟩
    rw [hp]
    refine (m2.new t _ ht').congr (fun a ha1 ha2 => ?_) fun a ha => ?_
    · rw [hl_nat] at ha2
      rw [hW, if_neg (by omega)]
    · unfold valQ
      rw [if_pos (.inl ht)]
      rfl
  · obtain ⟨t, ht, rfl⟩ := List.getElem_of_mem hj
    obtain ⟨u, hu, rfl⟩ := List.getElem_of_mem hj'
    have ht' : Q[t]? = some Q[t] := List.getElem?_eq_getElem ht
    have hu' : Q[u]? = some Q[u] := List.getElem?_eq_getElem hu
    have hp : pNew T (n - f) Q Q[t] = n - f + posQ T Q t := by unfold pNew; rw [idxOf_at hnd ht']
    have hp' : pNew T (n - f) Q Q[u] = n - f + posQ T Q u := by unfold pNew; rw [idxOf_at hnd hu']
    rw [hp, hp']
    rcases Nat.lt_trichotomy t u with h6 | h6 | h6
    · have hm := posQ_mono (T := T) (q := Q) (t := t + 1) (u := u) (by omega)
      rw [posQ_succ ht'] at hm
      omega
    · subst h6; exact absurd rfl hne
    · have hm := posQ_mono (T := T) (q := Q) (t := u + 1) (u := t) (by omega)
      rw [posQ_succ hu'] at hm
      omega
  · obtain ⟨t, ht, rfl⟩ := List.getElem_of_mem hj
    exact m2.seen t _ i x (List.getElem?_eq_getElem ht) (.inl ht) hi hx
end
end Go.Proofs.Ytggpomialmpgoaa.V
