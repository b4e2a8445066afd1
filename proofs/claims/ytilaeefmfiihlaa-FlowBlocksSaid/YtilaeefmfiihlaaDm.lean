/-
  What all ways go over, by meeting in an order: the law of 'nearest' and 'meet', no program in sight.
-/
import Derived.Test.YtilaeefmfiihlaaArith
namespace Go.Proofs.Ytilaeefmfiihlaa.V
open Go Go.RowKit
set_option linter.unusedVariables false
set_option linter.unusedSimpArgs false
set_option linter.unusedSectionVars false

/-- up from one to the next that it names -/
inductive Ch (ov : Nat → Option Nat) : Nat → Nat → Prop
  | refl (y : Nat) : Ch ov y y
  | step {y z d : Nat} : ov y = some z → Ch ov z d → Ch ov y d
/-- a way on which the order rises -/
inductive Fw (E : Nat → Nat → Prop) (R : Nat → Prop) (o : Nat → Nat) : Nat → Nat → Prop
  | refl (y : Nat) : Fw E R o y y
  | step {x f y : Nat} : Fw E R o x f → E f y → R f → o f < o y → Fw E R o x y
/-- come to on a way that does not go over d -/
inductive Av (E : Nat → Nat → Prop) (d : Nat) : Nat → Prop
  | zero : 0 ≠ d → Av E d 0
  | step {f x : Nat} : Av E d f → E f x → x ≠ d → Av E d x
def Pd (ov : Nat → Option Nat) (x : Nat) : Prop := x = 0 ∨ (ov x).isSome = true
structure Ord (E : Nat → Nat → Prop) (R : Nat → Prop) (o : Nat → Nat) : Prop where
  r0 : R 0
  o0 : o 0 = 0
  inj : ∀ x y, R x → R y → o x = o y → x = y
  fwd : ∀ x, R x → x ≠ 0 → ∃ f, E f x ∧ R f ∧ o f < o x
  closed : ∀ f x, E f x → R f → R x
structure Inv (E : Nat → Nat → Prop) (R : Nat → Prop) (o : Nat → Nat) (ov : Nat → Option Nat) : Prop where
  z0 : ov 0 = none
  i1 : ∀ x z, ov x = some z → R x ∧ R z ∧ Pd ov z ∧ o z < o x
  i2 : ∀ x z, ov x = some z → Fw E R o z x
  i3 : ∀ x, R x → Pd ov x → ∀ d, ¬ Av E d x → Ch ov x d
  m : ∀ x z, ov x = some z → ∀ v, (∀ f, E f x → R f → Pd ov f → Ch ov f v) → Ch ov z v
structure InP (E : Nat → Nat → Prop) (R : Nat → Prop) (o : Nat → Nat) (i : Nat) (ov : Nat → Option Nat) : Prop where
  pr : ∀ x, R x → o x < i → Pd ov x
  nn : ∀ z y, ov z = some y → ∀ f, E f z → R f → o f < o z → (o z < i → Ch ov f y) ∧ (i ≤ o z → ∀ v, Ch ov y v → i ≤ o v → Ch ov f v)
def setO (ov : Nat → Option Nat) (x c : Nat) : Nat → Option Nat := fun y => if y = x then some c else ov y
def Nearest (E : Nat → Nat → Prop) (R : Nat → Prop) (ov : Nat → Option Nat) (x c : Nat) : Prop := ∀ v, Ch ov c v ↔ ∀ f, E f x → R f → Pd ov f → Ch ov f v
section
variable {E : Nat → Nat → Prop} {R : Nat → Prop} {o : Nat → Nat} {ov : Nat → Option Nat} {x y z d f i a b c v : Nat}
theorem Ch.trans (h : Ch ov x y) (k : Ch ov y z) : Ch ov x z := by
  induction h with
  | refl _ => exact k
  | step e _ ih => exact .step e (ih k)
theorem Ch.lin (h : Ch ov x a) (k : Ch ov x b) : Ch ov a b ∨ Ch ov b a := by
  induction h with
  | refl _ => exact .inl k
  | step e h' ih =>
    cases k with
    | refl _ => exact .inr (.step e h')
    | step e' k' => rw [e] at e'; injection e' with e'; subst e'; exact ih k'
theorem Ch.end_ (h : Ch ov x d) (hx : ov x = none) : d = x := by
  cases h with
  | refl _ => rfl
  | step e _ => rw [hx] at e; cases e
theorem Ch.ord (i1 : ∀ x z, ov x = some z → R x ∧ R z ∧ Pd ov z ∧ o z < o x) (h : Ch ov x y) : o y ≤ o x := by
  induction h with
  | refl _ => exact Nat.le_refl _
  | step e _ ih => have := (i1 _ _ e).2.2.2; omega
theorem Ch.pd (i1 : ∀ x z, ov x = some z → R x ∧ R z ∧ Pd ov z ∧ o z < o x) (h : Ch ov x y) (hr : R x) (hp : Pd ov x) : R y ∧ Pd ov y := by
  induction h with
  | refl _ => exact ⟨hr, hp⟩
  | step e _ ih => have := i1 _ _ e; exact ih this.2.1 this.2.2.1
theorem Fw.trans (h : Fw E R o x y) (k : Fw E R o y z) : Fw E R o x z := by
  induction k with
  | refl => exact h
  | step _ e r l ih => exact .step ih e r l
theorem Fw.av (h : Fw E R o x y) (hd : o d < o x) (ha : Av E d x) : Av E d y ∧ o x ≤ o y := by
  induction h with
  | refl => exact ⟨ha, Nat.le_refl _⟩
  | step _ e r l ih =>
    refine ⟨.step ih.1 e ?_, by omega⟩
    rintro rfl
    have := ih.2
    omega
theorem Ch.fw (i2 : ∀ x z, ov x = some z → Fw E R o z x) (h : Ch ov x y) : Fw E R o y x := by
  induction h with
  | refl _ => exact .refl _
  | step e _ ih => exact ih.trans (i2 _ _ e)
theorem Pd.some (h : Pd ov x) (hx : x ≠ 0) : ∃ z, ov x = some z := by
  rcases h with h | h
  · exact absurd h hx
  · exact Option.isSome_iff_exists.1 h
theorem Pd.set (h : Pd ov y) : Pd (setO ov x c) y := by
  rcases h with h | h
  · exact .inl h
  · refine .inr ?_
    unfold setO
    split
    · rfl
    · exact h
/-- one step of the two fingers -/
theorem meet_step (I : Inv E R o ov) (O : Ord E R o) (ra : R a) (pa : Pd ov a) (hlt : o b < o a) : ∃ a', ov a = some a' ∧ R a' ∧ Pd ov a' ∧ o a' < o a ∧ ∀ v, (Ch ov a v ∧ Ch ov b v) ↔ (Ch ov a' v ∧ Ch ov b v) := by
  have h0 : a ≠ 0 := by rintro rfl; rw [O.o0] at hlt; omega
  obtain ⟨a', ha⟩ := pa.some h0
  obtain ⟨_, r, p, l⟩ := I.i1 _ _ ha
  refine ⟨a', ha, r, p, l, fun v => ⟨fun ⟨h1, h2⟩ => ⟨?_, h2⟩, fun ⟨h1, h2⟩ => ⟨.step ha h1, h2⟩⟩⟩
  cases h1 with
  | refl _ => have := h2.ord I.i1; omega
  | step e h => rw [ha] at e; injection e with e; subst e; exact h
theorem inv_none : Inv E R o (fun _ => none) ∧ InP E R o 0 (fun _ => none) := by
  refine ⟨⟨rfl, fun x z h => (by cases h), fun x z h => (by cases h), fun x _ hp d hd => ?_, fun x z h => (by cases h)⟩, ⟨fun x _ h => absurd h (Nat.not_lt_zero _), fun z y h => (by cases h)⟩⟩
  rcases hp with rfl | hp
  · by_cases h : 0 = d
    · subst h; exact .refl _
    · exact absurd (.zero h) hd
  · cases hp
/-- the next pass -/
theorem InP.again {m : Nat} (I : Inv E R o ov) (h : InP E R o m ov) (hm : ∀ x, R x → o x < m) : InP E R o 0 ov :=
  ⟨fun x _ h => absurd h (Nat.not_lt_zero _), fun z y hz f e r l => ⟨fun h => absurd h (Nat.not_lt_zero _), fun _ v hv _ => ((h.nn z y hz f e r l).1 (hm z (I.i1 _ _ hz).1)).trans hv⟩⟩
theorem InP.skip (I : Inv E R o ov) (O : Ord E R o) (h : InP E R o 0 ov) : InP E R o 1 ov := by
  refine ⟨fun y ry hy => ?_, fun z y hz f e r l => ⟨fun h1 => by omega, fun _ v hv _ => (h.nn z y hz f e r l).2 (Nat.zero_le _) v hv (Nat.zero_le _)⟩⟩
  exact .inl (O.inj y 0 ry O.r0 (by rw [O.o0]; omega))
theorem sum_less {l : List Nat} {g g' : Nat → Nat} {x : Nat} (hx : x ∈ l) (hl : ∀ y, g' y ≤ g y) (h : g' x < g x) : (l.map g').sum < (l.map g).sum := by
  have le : ∀ l : List Nat, (l.map g').sum ≤ (l.map g).sum := fun l => by
    induction l with
    | nil => exact Nat.le_refl _
    | cons a r ih => simp only [List.map_cons, List.sum_cons]; have := hl a; omega
  induction l with
  | nil => cases hx
  | cons a r ih =>
    simp only [List.map_cons, List.sum_cons]
    rcases List.mem_cons.1 hx with rfl | hx
    · have := le r; omega
    · have := ih hx; have := hl a; omega
section
variable (I : Inv E R o ov) (O : Ord E R o) (P : InP E R o i ov) (rx : R x) (x0 : x ≠ 0) (oi : o x = i) (rc : R c) (pc : Pd ov c) (hc : Nearest E R ov x c)
include I O P rx x0 oi rc pc hc
theorem near_lt : o c < o x := by
  obtain ⟨f, e, r, l⟩ := O.fwd x rx x0
  have := ((hc c).1 (.refl _) f e r (P.pr f r (by omega))).ord I.i1
  omega
theorem set_i1 : ∀ y z, setO ov x c y = some z → R y ∧ R z ∧ Pd (setO ov x c) z ∧ o z < o y := by
  have hl := near_lt I O P rx x0 oi rc pc hc
  intro y z h
  unfold setO at h
  split at h
  · rename_i e; subst e; injection h with h; subst h; exact ⟨rx, rc, pc.set, hl⟩
  · obtain ⟨h1, h2, h3, h4⟩ := I.i1 _ _ h; exact ⟨h1, h2, h3.set, h4⟩
omit O P rx x0 rc pc hc in
/-- below x in the order nothing turned -/
theorem set_A (hy : o y < o x) (h : Ch ov y v) : Ch (setO ov x c) y v := by
  induction h with
  | refl _ => exact .refl _
  | @step y z d e _ ih =>
    have := (I.i1 _ _ e).2.2.2
    refine .step (z := z) ?_ (ih (by omega))
    unfold setO
    rw [if_neg (by rintro rfl; omega)]
    exact e
theorem set_A' (hy : o y < o x) (h : Ch (setO ov x c) y v) : Ch ov y v := by
  induction h with
  | refl _ => exact .refl _
  | @step y z d e _ ih =>
    have hl := (set_i1 I O P rx x0 oi rc pc hc y z e).2.2.2
    unfold setO at e
    rw [if_neg (by rintro rfl; omega)] at e
    exact .step e (ih (by omega))
omit O P rx x0 rc pc hc in
theorem set_C (hv : o x ≤ o v) (h : Ch ov y v) : Ch (setO ov x c) y v := by
  induction h with
  | refl _ => exact .refl _
  | @step y z d e h' ih =>
    have h1 := (I.i1 _ _ e).2.2.2
    have h2 := h'.ord I.i1
    refine .step (z := z) ?_ (ih hv)
    unfold setO
    rw [if_neg (by rintro rfl; omega)]
    exact e
omit O P rx x0 rc pc hc I oi in
theorem set_E (hx : ¬ Ch ov y x) (h : Ch ov y v) : Ch (setO ov x c) y v := by
  induction h with
  | refl _ => exact .refl _
  | @step y z d e h' ih =>
    refine .step (z := z) ?_ (ih fun hh => hx (.step e hh))
    unfold setO
    rw [if_neg (by rintro rfl; exact hx (.refl _))]
    exact e
theorem set_B (py : Pd ov y) (h : Ch (setO ov x c) y v) : Ch ov y v := by
  have hl := near_lt I O P rx x0 oi rc pc hc
  induction h with
  | refl _ => exact .refl _
  | @step y z d e h' ih =>
    unfold setO at e
    split at e
    · rename_i e'; subst e'
      injection e with e; subst e
      obtain ⟨z', hz'⟩ := py.some x0
      have h2 := set_A' I O P rx x0 oi rc pc hc hl h'
      exact .step hz' (I.m _ _ hz' d fun f e r p => (hc d).1 h2 f e r p)
    · exact .step e (ih (I.i1 _ _ e).2.2.1)
theorem set_top (hy : Ch (setO ov x c) y x) (h : Ch (setO ov x c) y v) (hv : o v < o x) : Ch (setO ov x c) c v := by
  have i1 := set_i1 I O P rx x0 oi rc pc hc
  rcases hy.lin h with h1 | h1
  · cases h1 with
    | refl _ => omega
    | step e h2 => unfold setO at e; rw [if_pos rfl] at e; injection e with e; subst e; exact h2
  · have := h1.ord i1; omega
theorem set_inv : Inv E R o (setO ov x c) ∧ InP E R o (i + 1) (setO ov x c) := by
  have hl := near_lt I O P rx x0 oi rc pc hc
  have i1 := set_i1 I O P rx x0 oi rc pc hc
  have hxc : setO ov x c x = some c := by unfold setO; rw [if_pos rfl]
  have hne : ∀ y, y ≠ x → setO ov x c y = ov y := fun y h => by unfold setO; rw [if_neg h]
  have hA : ∀ {y v}, o y < o x → Ch ov y v → Ch (setO ov x c) y v := fun hy h => set_A I oi hy h
  have hC : ∀ {y v}, o x ≤ o v → Ch ov y v → Ch (setO ov x c) y v := fun hv h => set_C I oi hv h
  have hB : ∀ {y v}, Pd ov y → Ch (setO ov x c) y v → Ch ov y v := fun py h => set_B I O P rx x0 oi rc pc hc py h
  -- what stands over x stands over c
  have hdom : ∀ d, d ≠ x → ¬ Av E d x → Ch ov c d := fun d hd hav => (hc d).2 fun f e r p => I.i3 f r p d fun hf => hav (.step hf e (fun h => hd h.symm))
  refine ⟨⟨by rw [hne 0 (fun h => x0 h.symm)]; exact I.z0, i1, fun y z h => ?_, fun y ry py d hd => ?_, fun z y' hz v hv => ?_⟩, ⟨fun y ry hy => ?_, fun z y' hz f e r l => ⟨fun hzi => ?_, fun hzi v hv hiv => ?_⟩⟩⟩
  · by_cases hy : y = x
    · subst hy
      rw [hxc] at h; injection h with h; subst h
      obtain ⟨f, e, r, l⟩ := O.fwd y rx x0
      exact .step (((hc c).1 (.refl _) f e r (P.pr f r (by omega))).fw I.i2) e r l
    · rw [hne y hy] at h; exact I.i2 _ _ h
  · by_cases hy : y = x
    · subst hy
      by_cases hdx : d = y
      · subst hdx; exact .refl _
      · exact .step hxc (hA hl (hdom d hdx hd))
    · have py' : Pd ov y := by
        rcases py with h | h
        · exact .inl h
        · rw [hne y hy] at h; exact .inr h
      have h1 := I.i3 y ry py' d hd
      rcases Nat.lt_or_ge (o d) (o x) with ho | ho
      · by_cases hyx : Ch ov y x
        · have h2 : ¬ Av E d x := fun ha => hd ((hyx.fw I.i2).av ho ha).1
          have h3 : d ≠ x := by rintro rfl; omega
          exact (hC (Nat.le_refl _) hyx).trans (.step hxc (hA hl (hdom d h3 h2)))
        · exact set_E hyx h1
      · exact hC ho h1
  · by_cases hzx : z = x
    · subst hzx
      rw [hxc] at hz; injection hz with hz; subst hz
      exact hA hl ((hc v).2 fun f e r p => hB p (hv f e r p.set))
    · rw [hne z hzx] at hz
      obtain ⟨rz, ry', py', lz⟩ := I.i1 _ _ hz
      have h1 := I.m _ _ hz v fun f e r p => hB p (hv f e r p.set)
      rcases Nat.lt_or_ge (o v) (o x) with ho | ho
      · by_cases hyx : Ch ov y' x
        · have hox := hyx.ord I.i1
          have z0 : z ≠ 0 := by rintro rfl; rw [I.z0] at hz; cases hz
          obtain ⟨f, e, r, l⟩ := O.fwd z rz z0
          have hfx := (P.nn z y' hz f e r l).2 (by omega) x hyx (by omega)
          have pf : Pd (setO ov x c) f := by
            cases hfx with
            | refl _ => exact .inr (by rw [hxc]; rfl)
            | step e' _ => exact Pd.set (.inr (by rw [e']; rfl))
          have h3 := set_top I O P rx x0 oi rc pc hc (hC (Nat.le_refl _) hfx) (hv f e r pf) ho
          exact (hC (Nat.le_refl _) hyx).trans (.step hxc h3)
        · exact set_E hyx h1
      · exact hC ho h1
  · by_cases hy' : y = x
    · subst hy'; exact .inr (by rw [hxc]; rfl)
    · exact (P.pr y ry (by
        rcases Nat.lt_or_ge (o y) i with h | h
        · exact h
        · exact absurd (O.inj y x ry rx (by omega)) hy')).set
  · by_cases hzx : z = x
    · subst hzx
      rw [hxc] at hz; injection hz with hz; subst hz
      exact hA l ((hc c).1 (.refl _) f e r (P.pr f r (by omega)))
    · rw [hne z hzx] at hz
      have rz := (I.i1 _ _ hz).1
      have : o z < i := by
        rcases Nat.lt_or_ge (o z) i with h | h
        · exact h
        · exact absurd (O.inj z x rz rx (by omega)) hzx
      exact hA (by omega) ((P.nn z y' hz f e r l).1 this)
  · have hzx : z ≠ x := by rintro rfl; omega
    rw [hne z hzx] at hz
    obtain ⟨rz, ry', py', lz⟩ := I.i1 _ _ hz
    exact hC (by omega) ((P.nn z y' hz f e r l).2 (by omega) v (hB py' hv) (by omega))
theorem set_less (hz : ov x = some z) (hne : z ≠ c) : o c < o z := by
  have h1 := I.m _ _ hz c ((hc c).1 (.refl _))
  cases h1 with
  | refl _ => exact absurd rfl hne
  | step e h2 => have := (I.i1 _ _ e).2.2.2; have := h2.ord I.i1; omega
end
/-- where nothing turns any more -/
theorem nearest_dom {m : Nat} (I : Inv E R o ov) (O : Ord E R o) (P : InP E R o m ov) (hm : ∀ x, R x → o x < m) (F : ∀ x, R x → x ≠ 0 → ∃ y, ov x = some y ∧ Nearest E R ov x y) (rx : R x) : Ch ov x d ↔ ¬ Av E d x := by
  refine ⟨fun h ha => ?_, fun h => I.i3 x rx (P.pr x rx (hm x rx)) d h⟩
  have key : ∀ y, Av E d y → R y ∧ ¬ Ch ov y d := by
    intro y hy
    induction hy with
    | zero h0 => exact ⟨O.r0, fun hh => h0 (hh.end_ I.z0).symm⟩
    | @step f y hf e hne ih =>
      refine ⟨O.closed _ _ e ih.1, fun hh => ?_⟩
      have ry := O.closed _ _ e ih.1
      by_cases y0 : y = 0
      · subst y0; exact hne (hh.end_ I.z0).symm
      obtain ⟨y', hy', hn⟩ := F y ry y0
      cases hh with
      | refl _ => exact hne rfl
      | step e' h2 =>
        rw [hy'] at e'; injection e' with e'; subst e'
        exact ih.2 ((hn d).1 h2 f e ih.1 (P.pr f ih.1 (hm f ih.1)))
  exact (key x ha).2 h
end
end Go.Proofs.Ytilaeefmfiihlaa.V
