/-
  Types as data: which list may be, what means the same (by definition), how classes are found.
-/
import Derived.Test.YtfppdkkbekkhbaaDoorArith
namespace Go.Proofs.YtfppdkkbekkhbaaDoor.V.T
open Go Go.RowKit
set_option linter.unusedVariables false
set_option linter.unusedSimpArgs false

structure Ty where
  kind : Int
  parts : List Int
  of : Int
def There (n : Nat) (p : Int) : Prop := 0 ≤ p ∧ p < n + 2
instance (n : Nat) (p : Int) : Decidable (There n p) := inferInstanceAs (Decidable (_ ∧ _))
def kindT (L : List Ty) (n : Int) : Int :=
  if n = 0 ∨ n = 1 then n else if n < 0 then -1 else match L[(n - 2).toNat]? with
    | some x => x.kind
    | none => -1
def partsT (L : List Ty) (n : Int) : List Int :=
  if kindT L n = 2 ∨ kindT L n = 4 then match L[(n - 2).toNat]? with
    | some x => x.parts
    | none => [] else []
def ofT (L : List Ty) (n : Int) : Int :=
  if 3 ≤ kindT L n ∧ kindT L n ≤ 5 then match L[(n - 2).toNat]? with
    | some x => x.of
    | none => -1 else -1
def refT (L : List Ty) (n : Int) : Bool := decide (2 ≤ kindT L n)
def objT (L : List Ty) (n : Int) : Bool := decide (2 ≤ kindT L n ∧ kindT L n ≤ 4 ∧ 1 < n)
def wrongT (L : List Ty) (x : Ty) : Int :=
  if x.kind < 2 ∨ 5 < x.kind then 6
  else if (x.kind = 2 ∧ 12 < x.parts.length) ∨ (x.kind = 4 ∧ 6 < x.parts.length) then 5
  else if (x.kind = 3 ∨ x.kind = 5) ∧ x.parts ≠ [] then 7
  else if ¬ ∀ p ∈ x.parts, There L.length p then 7
  else if (x.kind = 2 ∧ x.of ≠ 0) ∨ (x.kind = 5 ∧ objT L x.of = false) ∨ ¬ There L.length x.of then 7
  else 0
def firstT (L : List Ty) : List Ty → Nat → Nat × Int
  | [], _ => (0, 0)
  | x :: r, i => if wrongT L x = 0 then firstT L r (i + 1) else (i, wrongT L x)
def rightT (L : List Ty) : Nat × Int := if 60 < L.length then (0, 5) else firstT L L 0

/-- types of a list that is right -/
structure TyOk (L : List Ty) (x : Ty) : Prop where
  kind : 2 ≤ x.kind ∧ x.kind ≤ 5
  parts : ∀ p ∈ x.parts, There L.length p
  none_ : x.kind = 3 ∨ x.kind = 5 → x.parts = []
  few : x.parts.length ≤ 12
  few4 : x.kind = 4 → x.parts.length ≤ 6
  of2 : x.kind = 2 → x.of = 0
  of : There L.length x.of
  of5 : x.kind = 5 → objT L x.of = true
theorem wrongT_ok {L : List Ty} {x : Ty} : wrongT L x = 0 ↔ TyOk L x := by
  unfold wrongT
  constructor
  · intro h
    split at h
    · cases h
    split at h
    · cases h
    split at h
    · cases h
    split at h
    · cases h
    split at h
    · cases h
    rename_i h1 h2 h3 h4 h5
    refine ⟨by omega, Decidable.not_not.1 h4, fun hk => ?_, ?_, fun hk => by omega, fun hk => ?_, ?_, fun hk => ?_⟩
    · exact Classical.byContradiction fun hn => h3 ⟨hk, hn⟩
    · rcases (show x.kind = 2 ∨ x.kind = 3 ∨ x.kind = 4 ∨ x.kind = 5 by omega) with hk | hk | hk | hk
      · omega
      · have : x.parts = [] := Classical.byContradiction fun hn => h3 ⟨.inl hk, hn⟩
        simp [this]
      · omega
      · have : x.parts = [] := Classical.byContradiction fun hn => h3 ⟨.inr hk, hn⟩
        simp [this]
    · exact Classical.byContradiction fun hn => h5 (.inl ⟨hk, hn⟩)
    · exact Classical.byContradiction fun hn => h5 (.inr (.inr hn))
    · cases ho : objT L x.of with
      | true => rfl
      | false => exact (h5 (.inr (.inl ⟨hk, ho⟩))).elim
  · intro h
    have hk := h.kind
    have hf := h.few
    rw [if_neg (by omega), if_neg (by have := h.few4; omega), if_neg (fun hh => hh.2 (h.none_ hh.1)), if_neg (fun hh => hh h.parts), if_neg ?_]
    rintro (hh | hh | hh)
    · exact hh.2 (h.of2 hh.1)
    · rw [h.of5 hh.1] at hh; exact Bool.noConfusion hh.2
    · exact hh h.of
theorem firstT_ok {L : List Ty} : ∀ (l : List Ty) (i : Nat), (firstT L l i).2 = 0 ↔ ∀ x ∈ l, TyOk L x
  | [], i => by simp [firstT]
  | x :: r, i => by
    unfold firstT
    split
    · rename_i h
      rw [firstT_ok r (i + 1)]
      simp [wrongT_ok.1 h]
    · rename_i h
      refine ⟨fun hh => (h hh).elim, fun hh => (h (wrongT_ok.2 (hh x (by simp)))).elim⟩
structure Right (L : List Ty) : Prop where
  few : L.length ≤ 60
  ok : ∀ x ∈ L, TyOk L x
theorem rightT_ok {L : List Ty} : (rightT L).2 = 0 ↔ Right L := by
  unfold rightT
  split
  · rename_i h
    exact ⟨fun hh => (by cases hh), fun hh => absurd hh.few (by omega)⟩
  · rename_i h
    rw [firstT_ok]
    exact ⟨fun hh => ⟨by omega, hh⟩, fun hh => hh.ok⟩

/-! ### all types, those of numbers and truths ahead -/
def allT (L : List Ty) : List Ty := ⟨0, [], 0⟩ :: ⟨1, [], 0⟩ :: L
theorem allT_len (L : List Ty) : (allT L).length = L.length + 2 := rfl
/-- what stands in a type of all that is right -/
structure AllOk (A : List Ty) (x : Ty) : Prop where
  parts : ∀ p ∈ x.parts, 0 ≤ p ∧ p < A.length
  of : 0 ≤ x.of ∧ x.of < A.length
  of2 : x.kind ≤ 2 → x.of = 0
  kind : 0 ≤ x.kind ∧ x.kind ≤ 5
  few : x.parts.length ≤ 12
theorem Right.all {L : List Ty} (h : Right L) : ∀ x ∈ allT L, AllOk (allT L) x := by
  intro x hx
  simp only [allT, List.mem_cons] at hx
  have hl := allT_len L
  rcases hx with rfl | rfl | hx
  · exact ⟨by simp, by simp only [hl]; omega, fun _ => rfl, by decide, by decide⟩
  · exact ⟨by simp, by simp only [hl]; omega, fun _ => rfl, by decide, by decide⟩
  · have k := h.ok x hx
    refine ⟨fun p hp => ?_, ?_, fun hk => k.of2 (by have := k.kind; omega), by have := k.kind; omega, k.few⟩
    · have := k.parts p hp; simp only [hl]; unfold There at this; omega
    · have := k.of; simp only [hl]; unfold There at this; omega
theorem kindT_all {L : List Ty} (h : Right L) (n : Int) : kindT L n = if 0 ≤ n ∧ n < L.length + 2 then ((allT L).getD n.toNat ⟨-1, [], -1⟩).kind else -1 := by
  unfold kindT
  by_cases h0 : n = 0
  · subst h0; simp [allT]; omega
  by_cases h1 : n = 1
  · subst h1; simp [allT]; omega
  rw [if_neg (by omega)]
  by_cases hn : n < 0
  · rw [if_pos hn, if_neg (by omega)]
  rw [if_neg hn]
  obtain ⟨k, rfl⟩ : ∃ k : Nat, n = k + 2 := ⟨(n - 2).toNat, by omega⟩
  rw [show ((k : Int) + 2 - 2).toNat = k by omega, show ((k : Int) + 2).toNat = k + 2 by omega]
  simp only [allT, List.getD_cons_succ]
  by_cases hk : k < L.length
  · rw [if_pos (by omega), List.getElem?_eq_getElem hk, List.getD_eq_getElem?_getD, List.getElem?_eq_getElem hk]; rfl
  · rw [if_neg (by omega), List.getElem?_eq_none (by omega)]

/-! ### what means the same -/
/-- related types are of one kind, and related in what stands in them -/
def Bis (A : List Ty) (R : Nat → Nat → Prop) : Prop := ∀ i k, R i k → ∃ x y, A[i]? = some x ∧ A[k]? = some y ∧ x.kind = y.kind ∧ x.parts.length = y.parts.length ∧
  (∀ (j : Nat) (p q : Int), x.parts[j]? = some p → y.parts[j]? = some q → R p.toNat q.toNat) ∧ (2 < x.kind → R x.of.toNat y.of.toNat)
def Alk (A : List Ty) (i k : Nat) : Prop := ∃ R, Bis A R ∧ R i k
theorem Bis.alk {A : List Ty} : Bis A (Alk A) := by
  rintro i k ⟨R, hR, h⟩
  obtain ⟨x, y, hx, hy, h1, h2, h3, h4⟩ := hR i k h
  exact ⟨x, y, hx, hy, h1, h2, fun j p q hp hq => ⟨R, hR, h3 j p q hp hq⟩, fun hk => ⟨R, hR, h4 hk⟩⟩
theorem Alk.refl {A : List Ty} (ok : ∀ x ∈ A, AllOk A x) {i : Nat} (hi : i < A.length) : Alk A i i := by
  refine ⟨fun a b => a = b ∧ a < A.length, ?_, rfl, hi⟩
  rintro a b ⟨rfl, ha⟩
  have k := ok _ (List.getElem_mem ha)
  refine ⟨A[a], A[a], List.getElem?_eq_getElem ha, List.getElem?_eq_getElem ha, rfl, rfl, fun j p q hp hq => ?_, fun _ => ⟨rfl, ?_⟩⟩
  · rw [hp] at hq; injection hq with hq; subst hq
    have := k.parts p (List.mem_of_getElem? hp)
    exact ⟨rfl, by omega⟩
  · have := k.of; omega
theorem Alk.symm {A : List Ty} {i k : Nat} (h : Alk A i k) : Alk A k i := by
  obtain ⟨R, hR, h⟩ := h
  refine ⟨fun a b => R b a, ?_, h⟩
  intro a b hab
  obtain ⟨x, y, hx, hy, h1, h2, h3, h4⟩ := hR b a hab
  exact ⟨y, x, hy, hx, h1.symm, h2.symm, fun j p q hp hq => h3 j q p hq hp, fun hk => h4 (by omega)⟩
theorem Alk.trans {A : List Ty} {i j k : Nat} (h : Alk A i j) (h' : Alk A j k) : Alk A i k := by
  obtain ⟨R, hR, h⟩ := h
  obtain ⟨S, hS, h'⟩ := h'
  refine ⟨fun a c => ∃ b, R a b ∧ S b c, ?_, j, h, h'⟩
  rintro a c ⟨b, hab, hbc⟩
  obtain ⟨x, y, hx, hy, h1, h2, h3, h4⟩ := hR a b hab
  obtain ⟨y', z, hy', hz, g1, g2, g3, g4⟩ := hS b c hbc
  rw [hy] at hy'; injection hy' with hy'; subst hy'
  refine ⟨x, z, hx, hz, h1.trans g1, h2.trans g2, fun j p q hp hq => ?_, fun hk => ⟨_, h4 hk, g4 (by omega)⟩⟩
  have hj : j < y.parts.length := by rw [← h2]; exact (List.getElem?_eq_some_iff.1 hp).1
  exact ⟨_, h3 j p _ hp (List.getElem?_eq_getElem hj), g3 j _ q (List.getElem?_eq_getElem hj) hq⟩
theorem Alk.lt {A : List Ty} {i k : Nat} (h : Alk A i k) : i < A.length ∧ k < A.length := by
  obtain ⟨x, y, hx, hy, _⟩ := Bis.alk i k h
  exact ⟨(List.getElem?_eq_some_iff.1 hx).1, (List.getElem?_eq_some_iff.1 hy).1⟩

/-! ### classes, each by its least type -/
def cl (c : List Nat) (i : Nat) : Nat := c.getD i 0
/-- what stands in two types is of one class, place by place -/
def goesP (c : List Nat) (x y : Ty) : Prop := (∀ (j : Nat) (p q : Int), x.parts[j]? = some p → y.parts[j]? = some q → cl c p.toNat = cl c q.toNat) ∧ cl c x.of.toNat = cl c y.of.toNat
def Step (A : List Ty) (c : List Nat) (i k : Nat) : Prop := ∃ x y, A[i]? = some x ∧ A[k]? = some y ∧ cl c i = cl c k ∧ goesP c x y
structure Cls (A : List Ty) (c : List Nat) : Prop where
  len : c.length = A.length
  le : ∀ i, i < A.length → cl c i ≤ i
  fix : ∀ i, i < A.length → cl c (cl c i) = cl c i
  kind : ∀ i k x y, A[i]? = some x → A[k]? = some y → cl c i = cl c k → x.kind = y.kind ∧ x.parts.length = y.parts.length
  all : ∀ i k, Alk A i k → cl c i = cl c k
section
variable {A : List Ty} {c : List Nat} {i k j : Nat}
theorem Step.refl (hi : i < A.length) : Step A c i i := ⟨_, _, List.getElem?_eq_getElem hi, List.getElem?_eq_getElem hi, rfl, fun j p q hp hq => by rw [hp] at hq; injection hq with hq; subst hq; rfl, rfl⟩
theorem Step.symm (h : Step A c i k) : Step A c k i := by
  obtain ⟨x, y, hx, hy, h1, h2, h3⟩ := h
  exact ⟨y, x, hy, hx, h1.symm, fun j p q hp hq => (h2 j q p hq hp).symm, h3.symm⟩
theorem Step.trans (hc : Cls A c) (h : Step A c i j) (h' : Step A c j k) : Step A c i k := by
  obtain ⟨x, y, hx, hy, h1, h2, h3⟩ := h
  obtain ⟨y', z, hy', hz, g1, g2, g3⟩ := h'
  rw [hy] at hy'; injection hy' with hy'; subst hy'
  refine ⟨x, z, hx, hz, h1.trans g1, fun j p q hp hq => ?_, h3.trans g3⟩
  have hj : j < y.parts.length := by rw [← (hc.kind _ _ _ _ hx hy h1).2]; exact (List.getElem?_eq_some_iff.1 hp).1
  exact (h2 j p _ hp (List.getElem?_eq_getElem hj)).trans (g2 j _ q (List.getElem?_eq_getElem hj) hq)
/-- the classes one step finer: 'next' says of each the least type that one step leaves with it -/
structure Next (A : List Ty) (c d : List Nat) (n : Nat) : Prop where
  len : d.length = A.length
  step : ∀ i, i < n → cl d i ≤ i ∧ Step A c i (cl d i) ∧ ∀ k, k < cl d i → ¬ Step A c i k
theorem Next.same (hc : Cls A c) {d : List Nat} {n : Nat} (h : Next A c d n) (hi : i < n) (hk : k < n) : Step A c i k ↔ cl d i = cl d k := by
  obtain ⟨a1, a2, a3⟩ := h.step i hi
  obtain ⟨b1, b2, b3⟩ := h.step k hk
  constructor
  · intro hs
    have e1 : ¬ cl d k < cl d i := fun hlt => a3 _ hlt (hs.trans hc b2)
    have e2 : ¬ cl d i < cl d k := fun hlt => b3 _ hlt (hs.symm.trans hc a2)
    omega
  · intro he
    rw [he] at a2
    exact a2.trans hc b2.symm
theorem Next.cls (hc : Cls A c) (ok : ∀ x ∈ A, AllOk A x) {d : List Nat} (h : Next A c d A.length) : Cls A d := by
  have lt : ∀ i, i < A.length → cl d i < A.length := fun i hi => by have := (h.step i hi).1; omega
  refine ⟨h.len, fun i hi => (h.step i hi).1, fun i hi => ?_, fun i k x y hx hy he => ?_, fun i k ha => ?_⟩
  · exact ((h.same hc hi (lt i hi)).1 (h.step i hi).2.1).symm
  · obtain ⟨x', y', hx', hy', h1, _⟩ := (h.same hc (List.getElem?_eq_some_iff.1 hx).1 (List.getElem?_eq_some_iff.1 hy).1).2 he
    exact hc.kind i k x y hx hy h1
  · have hl := ha.lt
    refine (h.same hc hl.1 hl.2).1 ?_
    obtain ⟨x, y, hx, hy, h1, h2, h3, h4⟩ := Bis.alk i k ha
    refine ⟨x, y, hx, hy, hc.all i k ha, fun j p q hp hq => hc.all _ _ (h3 j p q hp hq), ?_⟩
    by_cases hk : 2 < x.kind
    · exact hc.all _ _ (h4 hk)
    · rw [(ok x (List.mem_of_getElem? hx)).of2 (by omega), (ok y (List.mem_of_getElem? hy)).of2 (by omega)]
theorem Next.ge (hc : Cls A c) {d : List Nat} (h : Next A c d A.length) (hi : i < A.length) : cl c i ≤ cl d i := by
  obtain ⟨h1, ⟨x, y, _, _, h2, _⟩, _⟩ := h.step i hi
  have := hc.le (cl d i) (by omega)
  omega
/-- nothing more to be told apart: classes are what means the same -/
theorem Cls.done (hc : Cls A c) (ok : ∀ x ∈ A, AllOk A x) (h : Next A c c A.length) (hi : i < A.length) (hk : k < A.length) : cl c i = cl c k ↔ Alk A i k := by
  refine ⟨fun he => ⟨fun a b => a < A.length ∧ b < A.length ∧ cl c a = cl c b, ?_, hi, hk, he⟩, hc.all i k⟩
  rintro a b ⟨ha, hb, he⟩
  obtain ⟨x, y, hx, hy, h1, h2, h3⟩ := (h.same hc ha hb).2 he
  obtain ⟨k1, k2⟩ := hc.kind a b x y hx hy he
  have ox := ok x (List.mem_of_getElem? hx)
  have oy := ok y (List.mem_of_getElem? hy)
  have o1 := ox.of
  have o2 := oy.of
  refine ⟨x, y, hx, hy, k1, k2, fun j p q hp hq => ?_, fun _ => ⟨by omega, by omega, h3⟩⟩
  have p1 := ox.parts p (List.mem_of_getElem? hp)
  have q1 := oy.parts q (List.mem_of_getElem? hq)
  exact ⟨by omega, by omega, h2 j p q hp hq⟩
/-- the first classes: all of one kind and length -/
theorem Cls.first (hl : c.length = A.length) (h : ∀ i x, A[i]? = some x → ∃ y, A[cl c i]? = some y ∧ cl c i ≤ i ∧ x.kind = y.kind ∧ x.parts.length = y.parts.length ∧
    ∀ k z, A[k]? = some z → x.kind = z.kind → x.parts.length = z.parts.length → cl c i ≤ k) : Cls A c := by
  have get : ∀ i, (hi : i < A.length) → A[i]? = some A[i] := fun i hi => List.getElem?_eq_getElem hi
  have main : ∀ i k x z, A[i]? = some x → A[k]? = some z → x.kind = z.kind → x.parts.length = z.parts.length → cl c i = cl c k := by
    intro i k x z hx hz e1 e2
    obtain ⟨y, hy, l1, k1, p1, m1⟩ := h i x hx
    obtain ⟨y', hy', l2, k2, p2, m2⟩ := h k z hz
    have := m1 (cl c k) y' hy' (e1.trans k2) (e2.trans p2)
    have := m2 (cl c i) y hy (e1.symm.trans k1) (e2.symm.trans p1)
    omega
  refine ⟨hl, fun i hi => ?_, fun i hi => ?_, fun i k x y hx hy he => ?_, fun i k ha => ?_⟩
  · obtain ⟨_, _, l1, _⟩ := h i _ (get i hi)
    exact l1
  · obtain ⟨y, hy, l1, k1, p1, m1⟩ := h i _ (get i hi)
    exact (main i (cl c i) _ y (get i hi) hy k1 p1).symm
  · obtain ⟨x', hx', _, k1, p1, _⟩ := h i x hx
    obtain ⟨y', hy', _, k2, p2, _⟩ := h k y hy
    rw [he, hy'] at hx'
    injection hx' with hx'
    subst hx'
    exact ⟨k1.trans k2.symm, p1.trans p2.symm⟩
  · obtain ⟨x, y, hx, hy, h1, h2, _⟩ := Bis.alk i k ha
    exact main i k x y hx hy h1 h2
/-- how much finer classes may become yet -/
def room (c : List Nat) : Nat → Nat
  | 0 => 0
  | n + 1 => room c n + (n - cl c n)
theorem room_le {c d : List Nat} : ∀ n, (∀ i, i < n → cl c i ≤ cl d i) → room d n ≤ room c n
  | 0, _ => Nat.le_refl _
  | n + 1, h => by
    have := room_le n fun i hi => h i (by omega)
    have := h n (by omega)
    simp only [room]; omega
theorem room_lt {c d : List Nat} : ∀ n, (∀ i, i < n → cl c i ≤ cl d i ∧ cl d i ≤ i) → (∃ i, i < n ∧ cl c i ≠ cl d i) → room d n < room c n
  | 0, _, h => by obtain ⟨i, h, _⟩ := h; omega
  | n + 1, h, ⟨i, hi, hne⟩ => by
    have h0 := h n (by omega)
    have h1 := room_le (c := c) (d := d) n fun i hi => (h i (by omega)).1
    simp only [room]
    by_cases hin : i = n
    · subst hin; omega
    · have := room_lt n (fun i hi => h i (by omega)) ⟨i, by omega, hne⟩
      omega
theorem cl_ext {c d : List Nat} (hl : c.length = d.length) (h : ∀ i, i < c.length → cl c i = cl d i) : c = d := by
  apply List.ext_getElem hl
  intro i h1 h2
  have := h i h1
  simpa [cl, List.getD_eq_getElem?_getD, List.getElem?_eq_getElem h1, List.getElem?_eq_getElem h2] using this
end
end Go.Proofs.YtfppdkkbekkhbaaDoor.V.T
