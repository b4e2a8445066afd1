/-
  The laws of the stack: what they share.
-/
import Derived.Test.YtodbmiflnellcaaSt6
import Derived.Test.YtodbmiflnellcaaVcC
import Derived.Test.YtodbmiflnellcaaRow
namespace Go.Proofs.Ytodbmiflnellcaa.V
open Go Go.RowKit
set_option linter.unusedVariables false
set_option linter.unusedSimpArgs false

def pk (c n : Int) : Int := if c < 0 then (-(c + 1)).tmod n else c.tmod n
theorem pk_lt {c n : Int} (hn : 0 < n) : 0 ≤ pk c n ∧ pk c n < n := by
  unfold pk
  split
  · rw [Int.tmod_eq_emod_of_nonneg (by omega)]
    exact ⟨Int.emod_nonneg _ (by omega), Int.emod_lt_of_pos _ hn⟩
  · rw [Int.tmod_eq_emod_of_nonneg (by omega)]
    exact ⟨Int.emod_nonneg _ (by omega), Int.emod_lt_of_pos _ hn⟩
theorem pick_spec (c n : Int) (w : World) (h0 : -9223372036854775808 ≤ c) (h1 : c ≤ 9223372036854775807) (hn : 0 < n) :
    Calls Try.prog 8 #[.int .i64 c, .int .i64 n] w fun e w' => e = .returned (.int .i64 (pk c n)) ∧ w' = w := by
  refine vc_8 _ _ _ _ ?_
  simp only [eq_self, true_and, and_true, decide_eq_true_eq, decide_eq_false_iff_not, gd_st, gd_sf, exists_eq_left', exists_eq_left, Option.some.injEq, Sl.eta, Nat.reduceLeDiff, Int.reduceLE, Int.reduceLT, Int.reduceEq, Int.reduceNe, Nat.reduceMul, Nat.reduceAdd, Nat.reduceSub, Int.toNat_natCast, beq_iff_eq, bne_iff_ne, beq_eq_false_iff_ne, bne_eq_false_iff_eq, pick_and, pick_or, Bool.and_eq_true, Bool.or_eq_true, Bool.and_eq_false_iff, Bool.or_eq_false_iff, ne_eq, not_false_eq_true, Bool.not_eq_true', Bool.not_eq_false', reduceCtorEq, Nat.le_refl, Nat.zero_mul, Nat.mul_one, Nat.zero_add, Int.reduceToNat, ones, one, add_mk, Decidable.not_not, cond_true, cond_false, true_implies, false_implies, implies_true, Bool.not_true, Bool.not_false]
  refine ⟨fun h => ⟨by omega, ?_⟩, fun h => ⟨by omega, ?_⟩⟩
  · rw [wrap_i64 (n := c + 1) (by omega) (by omega), wrap_i64 (by omega) (by omega), pk, if_pos h]
    congr 3
    omega
  · rw [pk, if_neg h]

/-- same lists are the same -/
theorem same_spec {w : World} {a b : Sl} {xs : List Nat} (h1 : Rd w 1 a (uv xs)) (h2 : Rd w 1 b (uv xs)) (hm : xs.length ≤ 4611686018427387904) :
    Calls Try.prog 32 #[.slice a.a a.n a.c, .slice b.a b.n b.c] w fun e w' => e = .returned (.bool true) ∧ Ext w w' := by
  refine vc_32 _ _ _ _ ?_
  have l1 := h1.lenu
  have l2 := h2.lenu
  simp only [eq_self, true_and, and_true, decide_eq_true_eq, decide_eq_false_iff_not, gd_st, gd_sf, exists_eq_left', exists_eq_left, Option.some.injEq, Sl.eta, Nat.reduceLeDiff, Int.reduceLE, Int.reduceLT, Int.reduceEq, Int.reduceNe, Nat.reduceMul, Nat.reduceAdd, Nat.reduceSub, Int.toNat_natCast, beq_iff_eq, bne_iff_ne, beq_eq_false_iff_ne, bne_eq_false_iff_eq, pick_and, pick_or, Bool.and_eq_true, Bool.or_eq_true, Bool.and_eq_false_iff, Bool.or_eq_false_iff, ne_eq, not_false_eq_true, Bool.not_eq_true', Bool.not_eq_false', reduceCtorEq, Nat.le_refl, Nat.zero_mul, Nat.mul_one, Nat.zero_add, Int.reduceToNat, ones, one, add_mk, Decidable.not_not, cond_true, cond_false, true_implies, false_implies, implies_true, Bool.not_true, Bool.not_false]
  refine ⟨fun h => by omega, fun _ => ⟨fun n w' => 0 ≤ n ∧ n ≤ xs.length ∧ Ext w w', fun n _ => (xs.length - n).toNat, ⟨by omega, by omega, Ext.refl _⟩, ?_⟩⟩
  rintro _ n w1 ⟨n0, n1, x1⟩
  refine ⟨fun hn => ?_, fun hn => x1⟩
  obtain ⟨p, x, hp, hx, hc⟩ := (h1.ext x1).word n.toNat (by omega)
  obtain ⟨q, y, hq, hy, hd⟩ := (h2.ext x1).word n.toNat (by omega)
  rw [Nat.mul_one] at hc hd
  rw [hx] at hy
  injection hy with hy
  subst hy
  refine ⟨n0, hn, p, hp, _, hc, n0, by omega, q, hq, _, hd, fun w2 q2 => ⟨fun h => (h rfl).elim, fun _ => ⟨⟨?_, ?_, x1.trans q2.ext⟩, ?_⟩⟩⟩
  · rw [wrap_i64 (by omega) (by omega)]; omega
  · rw [wrap_i64 (by omega) (by omega)]; omega
  · dsimp only
    rw [wrap_i64 (by omega) (by omega)]; omega

/-! ### what is told of a stack: a row of frames -/
structure TF (w : World) (F : Nat → Prop) (f : Fr) (a b : Sl) : Prop where
  ls : Own w 0 34 1 a (uv f.ls)
  ops : Own w 0 34 1 b (uv f.ops)
  oa : a.off F
  ob : b.off F
  small : f.ls.length ≤ 32 ∧ f.ops.length ≤ 24
abbrev Tr := Fr × Sl × Sl
def trow (t : Tr) : List Value := [.int .i64 (t.1.fn : Nat), .int .i64 (t.1.at_ : Nat), .slice t.2.1.a t.2.1.n t.2.1.c, .slice t.2.2.a t.2.2.n t.2.2.c]
def tflat : List Tr → List Value
  | [] => []
  | t :: T => trow t ++ tflat T
theorem tflat_append (A B : List Tr) : tflat (A ++ B) = tflat A ++ tflat B := by
  induction A with
  | nil => rfl
  | cons t A ih => simp [tflat, ih]
theorem tflat_get : ∀ (T : List Tr) (i j : Nat) (t : Tr), T[i]? = some t → j < 4 → (tflat T)[i * 4 + j]? = (trow t)[j]?
  | [], i, j, t, h, _ => by simp at h
  | x :: T, 0, j, t, h, hj => by
    simp at h; subst h
    rw [tflat, Nat.zero_mul, Nat.zero_add, List.getElem?_append_left (by simp [trow]; omega)]
  | x :: T, i + 1, j, t, h, hj => by
    rw [tflat, List.getElem?_append_right (by simp [trow]; omega)]
    have := tflat_get T i j t (by simpa using h) hj
    rw [← this]
    congr 1
    simp [trow]
    omega
structure TL (w : World) (B : Nat) (F : Nat → Prop) (s : Sl) (T : List Tr) : Prop where
  row : Own w B 49 4 s (tflat T)
  off : s.off F
  fr : ∀ t ∈ T, TF w F t.1 t.2.1 t.2.2
section
variable {w w' : World} {B : Nat} {F F' S : Nat → Prop} {s : Sl} {T : List Tr} {f : Fr} {a b : Sl}
theorem tflat_len (T : List Tr) : (tflat T).length = T.length * 4 := by
  induction T with
  | nil => rfl
  | cons t T ih => simp [tflat, trow, ih]; omega
theorem TL.len (h : TL w B F s T) : s.n = T.length := by
  have := h.row.len
  rw [tflat_len] at this
  omega
theorem TL.cell (h : TL w B F s T) {i : Nat} {t : Tr} (hi : T[i]? = some t) : ∃ p, s.a = some p ∧ ∀ j v, (trow t)[j]? = some v → w.cell? ((p.add (i * 4)).add j) = some v := by
  have hl := h.len
  have hlt := (List.getElem?_eq_some_iff.1 hi).1
  obtain ⟨p, hp, hc⟩ := h.row.rd.2 (by omega)
  refine ⟨p, hp, fun j v hv => ?_⟩
  have hj : j < 4 := (List.getElem?_eq_some_iff.1 hv).1
  rw [add_add]
  exact hc _ _ (by rw [tflat_get T i j t hi hj]; exact hv)
theorem TF.step (h : TF w F f a b) (u : Upd F w w') (hF : ∀ k, F' k → F k ∨ w.heap.size ≤ k) : TF w' F' f a b := by
  have key : ∀ {s : Sl} {xs}, Own w 0 34 1 s xs → s.off F → s.off F' := fun ho hs p hp hk => by
    rcases hF _ hk with h' | h'
    · exact hs p hp h'
    · have := (ho.base p hp).2; omega
  exact ⟨h.ls.upd u h.oa, h.ops.upd u h.ob, key h.ls h.oa, key h.ops h.ob, h.small⟩
theorem TL.step (h : TL w B F s T) (u : Upd F w w') (hF : ∀ k, F' k → F k ∨ w.heap.size ≤ k) : TL w' B F' s T := by
  refine ⟨h.row.upd u h.off, fun p hp hk => ?_, fun t ht => (h.fr t ht).step u hF⟩
  rcases hF _ hk with h' | h'
  · exact h.off p hp h'
  · have := (h.row.base p hp).2; omega
theorem TL.ext (h : TL w B F s T) (u : Ext w w') : TL w' B F s T := h.step (u.mono fun _ _ _ => not_false) fun _ => .inl
theorem TL.mono {B' : Nat} (h : TL w B F s T) (hB : B' ≤ B) : TL w B' F s T := ⟨h.row.mono hB, h.off, h.fr⟩
end

theorem alike_spec {w : World} {B B' : Nat} {F : Nat → Prop} {a b : Sl} {T T' : List Tr} (h1 : TL w B F a T) (h2 : TL w B' F b T') (n : Nat) (n1 : n ≤ T.length) (n2 : n ≤ T'.length)
    (heq : ∀ i t t', i < n → T[i]? = some t → T'[i]? = some t' → t.1 = t'.1) (hm : T.length ≤ 1000000) :
    Calls Try.prog 16 #[.slice a.a a.n a.c, .slice b.a b.n b.c, .int .i64 (n : Nat)] w fun e w' => e = .returned (.bool true) ∧ Ext w w' := by
  refine vc_16 _ _ _ _ _ ?_
  have l1 := h1.len
  have l2 := h2.len
  simp only [eq_self, true_and, and_true, decide_eq_true_eq, decide_eq_false_iff_not, gd_st, gd_sf, exists_eq_left', exists_eq_left, Option.some.injEq, Sl.eta, Nat.reduceLeDiff, Int.reduceLE, Int.reduceLT, Int.reduceEq, Int.reduceNe, Nat.reduceMul, Nat.reduceAdd, Nat.reduceSub, Int.toNat_natCast, beq_iff_eq, bne_iff_ne, beq_eq_false_iff_ne, bne_eq_false_iff_eq, pick_and, pick_or, Bool.and_eq_true, Bool.or_eq_true, Bool.and_eq_false_iff, Bool.or_eq_false_iff, ne_eq, not_false_eq_true, Bool.not_eq_true', Bool.not_eq_false', reduceCtorEq, Nat.le_refl, Nat.zero_mul, Nat.mul_one, Nat.zero_add, Int.reduceToNat, ones, one, add_mk, Decidable.not_not, cond_true, cond_false, true_implies, false_implies, implies_true, Bool.not_true, Bool.not_false]
  refine ⟨fun _ => ⟨fun h => by omega, fun _ => ⟨fun i w' => 0 ≤ i ∧ i ≤ n ∧ Ext w w', fun i _ => (n - i).toNat, ⟨by omega, by omega, Ext.refl _⟩, ?_⟩⟩, fun h => by omega⟩
  rintro _ i w1 ⟨i0, i1, x1⟩
  refine ⟨fun hi w2 q2 => ⟨fun _ => False, ?_⟩, fun _ => x1⟩
  obtain ⟨k, rfl⟩ : ∃ k : Nat, i = k := ⟨i.toNat, by omega⟩
  rw [Int.toNat_natCast]
  obtain ⟨t, ht⟩ : ∃ t, T[k]? = some t := ⟨_, List.getElem?_eq_getElem (by omega)⟩
  obtain ⟨t', ht'⟩ : ∃ t, T'[k]? = some t := ⟨_, List.getElem?_eq_getElem (by omega)⟩
  have x2 : Ext w w2 := x1.trans q2.ext
  have e := heq k t t' (by omega) ht ht'
  have g1 := h1.ext x2
  have g2 := h2.ext x2
  have tf := g1.fr t (List.mem_of_getElem? ht)
  have tf' := g2.fr t' (List.mem_of_getElem? ht')
  obtain ⟨p, hp, c1⟩ := g1.cell ht
  obtain ⟨q, hq, c2⟩ := g2.cell ht'
  refine ⟨i0, by omega, p, hp, t.2.1, fun w3 u => ?_, i0, by omega, q, hq, t'.2.1, fun w3 u => ?_, ⟨(same_spec tf.ls.rd (e ▸ tf'.ls.rd) (by have := tf.small; omega)).mono ?_⟩⟩
  · obtain ⟨p', hp', c⟩ := (g1.ext u).cell ht
    rw [hp] at hp'; injection hp' with hp'; subst hp'
    exact c 2 _ rfl
  · obtain ⟨p', hp', c⟩ := (g2.ext u).cell ht'
    rw [hq] at hp'; injection hp' with hp'; subst hp'
    exact c 2 _ rfl
  rintro e1 w3 ⟨rfl, x3⟩
  refine ⟨true, rfl, fun w4 q4 => ⟨fun _ => False, ?_⟩⟩
  have x24 : Ext w2 w4 := x3.trans q4.ext
  have g1' := g1.ext x24
  have g2' := g2.ext x24
  have tf4 := g1'.fr t (List.mem_of_getElem? ht)
  have tf4' := g2'.fr t' (List.mem_of_getElem? ht')
  refine ⟨i0, by omega, p, hp, t.2.2, fun w5 u => ?_, i0, by omega, q, hq, t'.2.2, fun w5 u => ?_, ⟨(same_spec tf4.ops.rd (e ▸ tf4'.ops.rd) (by have := tf.small; omega)).mono ?_⟩⟩
  · obtain ⟨p', hp', c⟩ := (g1'.ext u).cell ht
    rw [hp] at hp'; injection hp' with hp'; subst hp'
    exact c 3 _ rfl
  · obtain ⟨p', hp', c⟩ := (g2'.ext u).cell ht'
    rw [hq] at hp'; injection hp' with hp'; subst hp'
    exact c 3 _ rfl
  rintro e2 w5 ⟨rfl, x5⟩
  have x25 : Ext w2 w5 := x24.trans x5
  have y1 := (g1.ext x25).cell ht
  have y2 := (g2.ext x25).cell ht'
  obtain ⟨p', hp', d1⟩ := y1
  obtain ⟨q', hq', d2⟩ := y2
  rw [hp] at hp'; injection hp' with hp'; subst hp'
  rw [hq] at hq'; injection hq' with hq'; subst hq'
  refine ⟨true, rfl, fun _ => ⟨fun _ => ⟨i0, by omega, p, hp, _, d1 0 _ rfl, i0, by omega, q, hq, _, d2 0 _ rfl, fun _ => ⟨i0, by omega, p, hp, _, d1 1 _ rfl, i0, by omega, q, hq, _, d2 1 _ rfl, fun w6 q6 => ⟨fun hne => absurd (by rw [e]) hne, fun _ => ⟨⟨?_, ?_, ?_⟩, ?_⟩⟩⟩, fun hne => absurd (by rw [e]) hne⟩, fun h => by cases h⟩, fun h => by cases h⟩
  · rw [wrap_i64 (by omega) (by omega)]; omega
  · rw [wrap_i64 (by omega) (by omega)]; omega
  · exact x2.trans (x25.trans q6.ext)
  · dsimp only
    rw [wrap_i64 (by omega) (by omega)]; omega
end Go.Proofs.Ytodbmiflnellcaa.V
