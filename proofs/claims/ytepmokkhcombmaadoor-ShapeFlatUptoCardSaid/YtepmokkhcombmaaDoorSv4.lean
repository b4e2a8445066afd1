/-
  Objects by their IDs; rows and cells copied; the function handed in.
-/
import Derived.Test.YtepmokkhcombmaaDoorSv3
import Derived.Test.YtepmokkhcombmaaDoorVcB
namespace Go.Proofs.YtepmokkhcombmaaDoor.V
open Go Go.RowKit
set_option linter.unusedVariables false
set_option linter.unusedSimpArgs false
set_option linter.unusedSectionVars false
set_option maxRecDepth 100000

structure Th where
  id : Nat
  lab : List UInt8
  cells : List Cl
def findT (L : List Th) (id : Nat) : Ob := match L.find? (fun t => decide (t.id = id)) with
  | some t => ⟨t.lab, t.cells⟩
  | none => ⟨[], []⟩
abbrev QT := Nat × List UInt8 × Sl
def thV (q : List QT) : List Value := q.flatMap fun a => [.int .u64 (a.1 : Nat), .string (mkB a.2.1), .slice a.2.2.a a.2.2.n a.2.2.c]
abbrev QR := Int × Int × Sl × Sl
def rwV (q : List QR) : List Value := q.flatMap fun a => [.int .i64 a.1, .int .i64 a.2.1, .slice a.2.2.1.a a.2.2.1.n a.2.2.1.c, .slice a.2.2.2.a a.2.2.2.n a.2.2.2.c]
theorem thV_len : ∀ c : List QT, (thV c).length = c.length * 3
  | [] => rfl
  | x :: c => by
    have := thV_len c
    unfold thV at *
    simp only [List.flatMap_cons, List.length_append, List.length_cons, this, List.length_nil]
    omega
theorem thV_get : ∀ {c : List QT} {i : Nat} {x : QT}, c[i]? = some x → (thV c)[i * 3]? = some (.int .u64 (x.1 : Nat)) ∧ (thV c)[i * 3 + 1]? = some (.string (mkB x.2.1)) ∧ (thV c)[i * 3 + 2]? = some (.slice x.2.2.a x.2.2.n x.2.2.c)
  | [], _, _, h => by simp at h
  | y :: c, 0, x, h => by
    simp at h; subst h
    exact ⟨rfl, rfl, rfl⟩
  | y :: c, i + 1, x, h => by
    have ih := thV_get (c := c) (i := i) (x := x) (by simpa using h)
    have e : ∀ j, (thV (y :: c))[j + 3]? = (thV c)[j]? := fun j => rfl
    refine ⟨?_, ?_, ?_⟩
    · rw [show (i + 1) * 3 = i * 3 + 3 by omega, e]; exact ih.1
    · rw [show (i + 1) * 3 + 1 = (i * 3 + 1) + 3 by omega, e]; exact ih.2.1
    · rw [show (i + 1) * 3 + 2 = (i * 3 + 2) + 3 by omega, e]; exact ih.2.2
theorem rwV_len : ∀ c : List QR, (rwV c).length = c.length * 4
  | [] => rfl
  | x :: c => by
    have := rwV_len c
    unfold rwV at *
    simp only [List.flatMap_cons, List.length_append, List.length_cons, this, List.length_nil]
    omega
theorem rwV_append (a b : List QR) : rwV (a ++ b) = rwV a ++ rwV b := by simp [rwV]
theorem rwV_ones (c : List QR) : ∀ v ∈ rwV c, one v := by
  intro v hv
  unfold rwV at hv
  obtain ⟨x, _, hx⟩ := List.mem_flatMap.1 hv
  simp at hx
  rcases hx with rfl | rfl | rfl | rfl <;> trivial
theorem rwV_get : ∀ {c : List QR} {i : Nat} {x : QR}, c[i]? = some x → (rwV c)[i * 4]? = some (.int .i64 x.1) ∧ (rwV c)[i * 4 + 1]? = some (.int .i64 x.2.1) ∧ (rwV c)[i * 4 + 2]? = some (.slice x.2.2.1.a x.2.2.1.n x.2.2.1.c) ∧ (rwV c)[i * 4 + 3]? = some (.slice x.2.2.2.a x.2.2.2.n x.2.2.2.c)
  | [], _, _, h => by simp at h
  | y :: c, 0, x, h => by
    simp at h; subst h
    exact ⟨rfl, rfl, rfl, rfl⟩
  | y :: c, i + 1, x, h => by
    have ih := rwV_get (c := c) (i := i) (x := x) (by simpa using h)
    have e : ∀ j, (rwV (y :: c))[j + 4]? = (rwV c)[j]? := fun j => rfl
    refine ⟨?_, ?_, ?_, ?_⟩
    · rw [show (i + 1) * 4 = i * 4 + 4 by omega, e]; exact ih.1
    · rw [show (i + 1) * 4 + 1 = (i * 4 + 1) + 4 by omega, e]; exact ih.2.1
    · rw [show (i + 1) * 4 + 2 = (i * 4 + 2) + 4 by omega, e]; exact ih.2.2.1
    · rw [show (i + 1) * 4 + 3 = (i * 4 + 3) + 4 by omega, e]; exact ih.2.2.2
/-- things that can be read in all worlds of a kind -/
def ThK (K : World → Prop) (s : Sl) (L : List Th) : Prop := ∃ q : List QT, q.length = L.length ∧ (∀ (k : Nat) (a : QT) (t : Th), q[k]? = some a → L[k]? = some t → a.1 = t.id ∧ a.2.1 = t.lab) ∧
  ∀ w', K w' → Rd w' 3 s (thV q) ∧ ∀ (k : Nat) (a : QT) (t : Th), q[k]? = some a → L[k]? = some t → Rd w' 3 a.2.2 (clV t.cells)
def RwK (K : World → Prop) (s : Sl) (R : List Rp) : Prop := ∃ q : List QR, q.length = R.length ∧ (∀ (k : Nat) (a : QR) (t : Rp), q[k]? = some a → R[k]? = some t → a.1 = t.fn ∧ a.2.1 = t.pl) ∧
  ∀ w', K w' → Rd w' 4 s (rwV q) ∧ ∀ (k : Nat) (a : QR) (t : Rp), q[k]? = some a → R[k]? = some t → Rd w' 3 a.2.2.1 (clV t.loc) ∧ Rd w' 3 a.2.2.2 (clV t.stk)
theorem ThK.mono {K K' : World → Prop} {s : Sl} {L : List Th} (h : ThK K s L) (hK : ∀ w, K' w → K w) : ThK K' s L := by
  obtain ⟨q, h1, h2, h3⟩ := h; exact ⟨q, h1, h2, fun w' hw => h3 w' (hK w' hw)⟩
theorem RwK.mono {K K' : World → Prop} {s : Sl} {L : List Rp} (h : RwK K s L) (hK : ∀ w, K' w → K w) : RwK K' s L := by
  obtain ⟨q, h1, h2, h3⟩ := h; exact ⟨q, h1, h2, fun w' hw => h3 w' (hK w' hw)⟩
theorem Rd.nil0 (w : World) (z : Nat) : Rd w z ⟨none, 0, 0⟩ [] := ⟨by simp, fun h => absurd h (Nat.lt_irrefl _)⟩
section
variable {w w' : World} {K : World → Prop} {s : Sl} {L : List Th} {l : List Cl}
theorem ThK.at_ (h : ThK K s L) (hw1 : K w) {k : Nat} {t : Th} (ht : L[k]? = some t) : ∃ p sl, s.a = some p ∧ ∀ w', K w' → (w'.cell? ((p.add (k * 3)).add 0) = some (.int .u64 (t.id : Nat)) ∧ w'.cell? ((p.add (k * 3)).add 1) = some (.string (mkB t.lab)) ∧ w'.cell? ((p.add (k * 3)).add 2) = some (.slice sl.a sl.n sl.c) ∧ Rd w' 3 sl (clV t.cells)) := by
  obtain ⟨q, h1, h2, h3⟩ := h
  have hk := (List.getElem?_eq_some_iff.1 ht).1
  obtain ⟨a, ha⟩ : ∃ a, q[k]? = some a := ⟨_, List.getElem?_eq_getElem (by omega)⟩
  obtain ⟨e1, e2⟩ := h2 k a t ha ht
  obtain ⟨g0, g1, g2⟩ := thV_get ha
  have hl := (h3 w hw1).1.1
  rw [thV_len] at hl
  obtain ⟨p, hp, _⟩ := (h3 w hw1).1.2 (by omega)
  refine ⟨p, a.2.2, hp, fun w' hw => ?_⟩
  obtain ⟨p', hp', hc⟩ := (h3 w' hw).1.2 (by omega)
  rw [hp] at hp'; injection hp' with hp'; subst hp'
  refine ⟨?_, ?_, ?_, (h3 w' hw).2 k a t ha ht⟩
  · rw [add_add, ← e1]; exact hc _ _ g0
  · rw [add_add, ← e2]; exact hc _ _ g1
  · rw [add_add]; exact hc _ _ g2
theorem ThK.n (h : ThK K s L) (hw1 : K w) : s.n = L.length := by
  obtain ⟨q, h1, h2, h3⟩ := h
  have hl := (h3 w hw1).1.1
  rw [thV_len] at hl; omega
theorem RwK.n {R : List Rp} (h : RwK K s R) (hw1 : K w) : s.n = R.length := by
  obtain ⟨q, h1, h2, h3⟩ := h
  have hl := (h3 w hw1).1.1
  rw [rwV_len] at hl; omega
theorem RwK.at_ {R : List Rp} (h : RwK K s R) (hw1 : K w) {k : Nat} {t : Rp} (ht : R[k]? = some t) : ∃ p s1 s2, s.a = some p ∧ ∀ w', K w' → (w'.cell? ((p.add (k * 4)).add 0) = some (.int .i64 t.fn) ∧ w'.cell? ((p.add (k * 4)).add 1) = some (.int .i64 t.pl) ∧ w'.cell? ((p.add (k * 4)).add 2) = some (.slice s1.a s1.n s1.c) ∧ w'.cell? ((p.add (k * 4)).add 3) = some (.slice s2.a s2.n s2.c) ∧ Rd w' 3 s1 (clV t.loc) ∧ Rd w' 3 s2 (clV t.stk)) := by
  obtain ⟨q, h1, h2, h3⟩ := h
  have hk := (List.getElem?_eq_some_iff.1 ht).1
  obtain ⟨a, ha⟩ : ∃ a, q[k]? = some a := ⟨_, List.getElem?_eq_getElem (by omega)⟩
  obtain ⟨e1, e2⟩ := h2 k a t ha ht
  obtain ⟨g0, g1, g2, g3⟩ := rwV_get ha
  have hl := (h3 w hw1).1.1
  rw [rwV_len] at hl
  obtain ⟨p, hp, _⟩ := (h3 w hw1).1.2 (by omega)
  refine ⟨p, a.2.2.1, a.2.2.2, hp, fun w' hw => ?_⟩
  obtain ⟨p', hp', hc⟩ := (h3 w' hw).1.2 (by omega)
  rw [hp] at hp'; injection hp' with hp'; subst hp'
  obtain ⟨r1, r2⟩ := (h3 w' hw).2 k a t ha ht
  refine ⟨?_, ?_, ?_, ?_, r1, r2⟩
  · rw [add_add, ← e1]; exact hc _ _ g0
  · rw [add_add, ← e2]; exact hc _ _ g1
  · rw [add_add]; exact hc _ _ g2
  · rw [add_add]; exact hc _ _ g3
theorem find_spec (h : ThK K s L) (hK : ∀ w', Ext w w' → K w') {id : Nat} (hm : L.length ≤ 1000000000000) :
    Calls Tryd.prog 15 #[.slice s.a s.n s.c, .int .u64 (id : Nat)] w fun e w' => ∃ sl : Sl, e = .returned (.agg #[.string (mkB (findT L id).lab), .slice sl.a sl.n sl.c]) ∧ (∀ w'', K w'' → Rd w'' 3 sl (clV (findT L id).cells)) ∧ Ext w w' := by
  refine vc_15 _ _ _ _ ?_
  have hn := h.n (hK w (Ext.refl _))
  simp only [eq_self, false_or, or_false, true_and, and_true, decide_eq_true_eq, decide_eq_false_iff_not, gd_st, gd_sf, exists_eq_left', exists_eq_left, Option.some.injEq, Sl.eta, Nat.reduceLeDiff, Int.reduceLE, Int.reduceLT, Int.reduceEq, Int.reduceNe, Nat.reduceMul, Nat.reduceAdd, Nat.reduceSub, Int.toNat_natCast, beq_iff_eq, bne_iff_ne, beq_eq_false_iff_ne, bne_eq_false_iff_eq, pick_and, pick_or, Bool.and_eq_true, Bool.or_eq_true, Bool.and_eq_false_iff, Bool.or_eq_false_iff, ne_eq, not_false_eq_true, Bool.not_eq_true', Bool.not_eq_false', reduceCtorEq, Nat.le_refl, Nat.zero_mul, Nat.mul_one, Nat.zero_add, Int.reduceToNat, ones, one, add_mk, Decidable.not_not, cond_true, cond_false, true_implies, false_implies, implies_true, Bool.not_true, Bool.not_false]
  intro w1 n1
  have k1 := Blk.new n1
  refine ⟨fun n w' => ∃ k : Nat, n = (k : Nat) ∧ k ≤ L.length ∧ (∀ (j : Nat) (t : Th), j < k → L[j]? = some t → t.id ≠ id) ∧ Ext w1 w', fun n _ => (L.length - n).toNat, ⟨0, rfl, Nat.zero_le _, fun j t hj => absurd hj (Nat.not_lt_zero _), Ext.refl _⟩, ?_⟩
  rintro _ n w2 ⟨k, rfl, hk, hno, x2⟩
  have ek : IntKind.i64.wrap ((k : Int) + 1) = ((k + 1 : Nat) : Int) := by rw [wrap_i64 (by omega) (by omega)]; omega
  rw [ek]
  have k2 := k1.ext x2
  have x02 := n1.ext.trans x2
  refine ⟨fun hlt => ?_, fun hge => ⟨k2.canSetN 0 2 (by simp), fun w3 s3 => ?_⟩⟩
  · obtain ⟨t, ht⟩ : ∃ t, L[k]? = some t := ⟨_, List.getElem?_eq_getElem (by omega)⟩
    obtain ⟨p, sl, hp, hc⟩ := h.at_ (hK w (Ext.refl _)) ht
    simp only [Int.toNat_natCast]
    refine ⟨by omega, by omega, p, hp, _, (hc w2 (hK _ x02)).1, fun he w3 q3 => ?_, fun hne => ⟨⟨k + 1, rfl, by omega, fun j t' hj ht' => ?_, x2⟩, by omega⟩⟩
    · have x3 := x02.trans q3.ext
      have k3 := k2.ext q3.ext
      refine ⟨fun _ => False, by omega, by omega, p, hp, _, fun w' u => (hc w' (hK _ (x3.trans u))).2.1, by omega, by omega, p, hp, sl, fun w' u => (hc w' (hK _ (x3.trans u))).2.2.1, (by show 2 ≤ 2; decide), rfl, k3.canSetN 0 2 (by simp), fun w4 s4 => ?_⟩
      have k4 : Blk w4 w.heap.size 51 [.string (mkB t.lab), .slice sl.a sl.n sl.c] := s4.blk k3
      have hf : findT L id = ⟨t.lab, t.cells⟩ := by
        unfold findT
        have : L.find? (fun t => decide (t.id = id)) = some t := by
          rw [List.find?_eq_some_iff_getElem]
          refine ⟨by rw [decide_eq_true_eq]; omega, k, (List.getElem?_eq_some_iff.1 ht).1, (List.getElem?_eq_some_iff.1 ht).2, fun j hj => ?_⟩
          rw [Bool.not_eq_true', decide_eq_false_iff_not]
          exact hno j _ hj (List.getElem?_eq_getElem (by omega))
        rw [this]
      rw [hf]
      exact ⟨_, sl, rfl, ⟨k4.cell 0, k4.cell 1⟩, sl, rfl, fun w'' hw => (hc w'' hw).2.2.2, x3.fresh s4.upd (by rintro i rfl; exact Nat.le_refl _)⟩
    · rcases Nat.lt_or_ge j k with h1 | h1
      · exact hno j t' h1 ht'
      · have : j = k := by omega
        subst this
        rw [ht] at ht'; injection ht' with ht'; subst ht'
        omega
  · have k3 : Blk w3 w.heap.size 51 [.string (mkB []), .slice none 0 0] := s3.blk k2
    have hf : findT L id = ⟨[], []⟩ := by
      unfold findT
      have : L.find? (fun t => decide (t.id = id)) = none := by
        rw [List.find?_eq_none]
        intro t ht
        obtain ⟨j, hj⟩ := List.getElem?_of_mem ht
        rw [decide_eq_true_eq]
        exact hno j t (by have := (List.getElem?_eq_some_iff.1 hj).1; omega) hj
      rw [this]
    rw [hf]
    exact ⟨_, ⟨none, 0, 0⟩, rfl, ⟨k3.cell 0, k3.cell 1⟩, ⟨none, 0, 0⟩, rfl, fun w'' hw => Rd.nil0 _ _, x02.fresh s3.upd (by rintro i rfl; exact Nat.le_refl _)⟩
/-- cells, as the program has them -/
theorem lcells_spec (h : Rd w 3 s (clV l)) (hm : l.length ≤ 1000000000000) :
    Calls Tryd.prog 16 #[.slice s.a s.n s.c] w fun e w' => ∃ sl : Sl, e = .returned (.slice sl.a sl.n sl.c) ∧ Own w' w.heap.size 49 3 sl (clV l) ∧ Ext w w' := by
  refine vc_16 _ _ _ ?_
  have hn := h.lencl
  simp only [eq_self, false_or, or_false, true_and, and_true, decide_eq_true_eq, decide_eq_false_iff_not, gd_st, gd_sf, exists_eq_left', exists_eq_left, Option.some.injEq, Sl.eta, Nat.reduceLeDiff, Int.reduceLE, Int.reduceLT, Int.reduceEq, Int.reduceNe, Nat.reduceMul, Nat.reduceAdd, Nat.reduceSub, Int.toNat_natCast, beq_iff_eq, bne_iff_ne, beq_eq_false_iff_ne, bne_eq_false_iff_eq, pick_and, pick_or, Bool.and_eq_true, Bool.or_eq_true, Bool.and_eq_false_iff, Bool.or_eq_false_iff, ne_eq, not_false_eq_true, Bool.not_eq_true', Bool.not_eq_false', reduceCtorEq, Nat.le_refl, Nat.zero_mul, Nat.mul_one, Nat.zero_add, Int.reduceToNat, ones, one, add_mk, Decidable.not_not, cond_true, cond_false, true_implies, false_implies, implies_true, Bool.not_true, Bool.not_false]
  refine ⟨fun sl n w' => ∃ k : Nat, n = (k : Nat) ∧ k ≤ l.length ∧ Own w' w.heap.size 49 3 sl (clV (l.take k)) ∧ Ext w w', fun _ n _ => (l.length - n).toNat, ⟨0, rfl, Nat.zero_le _, Own.nil _ _ _ _, Ext.refl _⟩, ?_⟩
  rintro _ sl n w1 ⟨k, rfl, hk, o1, x1⟩
  have ek : IntKind.i64.wrap ((k : Int) + 1) = ((k + 1 : Nat) : Int) := by rw [wrap_i64 (by omega) (by omega)]; omega
  rw [ek]
  refine ⟨fun hlt w2 q2 => ?_, fun hge => ?_⟩
  · obtain ⟨c, hc⟩ : ∃ c, l[k]? = some c := ⟨_, List.getElem?_eq_getElem (by omega)⟩
    obtain ⟨p, hp, _⟩ := h.cl hc
    have cc : ∀ w', Ext w2 w' → w'.cell? ((p.add (k * 3)).add 0) = some (.bool c.ref) ∧ w'.cell? ((p.add (k * 3)).add 1) = some (.int .u64 (c.id : Nat)) ∧ w'.cell? ((p.add (k * 3)).add 2) = some (.string (mkB c.text)) := fun w' u => by
      obtain ⟨p', hp', hh⟩ := (h.ext ((x1.trans q2.ext).trans u)).cl hc
      rw [hp] at hp'; injection hp' with hp'; subst hp'; exact hh
    simp only [Int.toNat_natCast]
    refine ⟨fun _ => False, by omega, by omega, p, hp, _, fun w' u => (cc w' u).1, by omega, by omega, p, hp, _, fun w' u => (cc w' u).2.1, by omega, by omega, p, hp, _, fun w' u => (cc w' u).2.2, (by show 2 ≤ 3; decide), (by show 3 ≤ 3; decide), rfl, fun w3 n3 => ⟨n3.ext, ?_⟩⟩
    have z3 := n3.size
    have z1 := x1.size
    have z2 := q2.size
    have hsn := o1.rd.lencl
    rw [List.length_take] at hsn
    have rd : Rd w3 3 ⟨some ⟨w2.heap.size, 0, none⟩, 1, 1⟩ (clV [c]) := (Blk.new n3).rd (z := 3) (o := 0) (n := 1) (c := 1) (by simp)
    obtain ⟨s', w4, hr4, hn4, o4, u4, _⟩ := ((o1.ext q2.ext).ext n3.ext).append (t := 46) (ty := 46) tab_ok (by rfl) (by rfl) (by decide) rd (clV_ones _) (by dsimp only; omega) (by dsimp only; omega) (by omega)
    rw [← clV_append, ← take_snoc hc] at o4
    exact ⟨s', w4, hr4, ⟨k + 1, rfl, by omega, o4, ((x1.trans q2.ext).trans n3.ext).fresh u4 (by rintro j ⟨q, hq, rfl⟩; exact (o1.base q hq).1)⟩, by omega⟩
  · have : k = l.length := by omega
    subst this
    rw [List.take_length] at o1
    exact ⟨sl, rfl, o1, x1⟩
end
end Go.Proofs.YtepmokkhcombmaaDoor.V
