/-
  The laws of types: whole.
-/
import Derived.Test.YtiljdcopkgmcbaaLy2
namespace Go.Proofs.Ytiljdcopkgmcbaa.V
open Go Go.RowKit
set_option linter.unusedVariables false
set_option linter.unusedSimpArgs false
set_option maxRecDepth 100000

section
variable {w w' : World} {B i : Nat} {s : Sl} {T : List Tp} {t : Tp} {S : Nat → Prop}
theorem Lent.inside (h : Lent w B s T i) (ht : T[i]? = some t) {q : Addr} (hq : t.2.a = some q) (u : Upd (fun k => k = q.block) w w') : Lent w' B s T (i + 1) := by
  obtain ⟨X, ho, hl, hx⟩ := h.row
  have h0 := (h.parts i t (Nat.le_refl _) ht).1
  refine ⟨⟨X, ho.upd u fun p hp => own_ne ho h0 (by decide) p q hp hq, hl, fun j hj => hx j (by omega)⟩, fun j t' hj ht' => ?_, h.apart⟩
  obtain ⟨h1, h2⟩ := h.parts j t' (by omega) ht'
  refine ⟨h1.upd u fun p hp e => ?_, h2⟩
  have hi := (List.getElem?_eq_some_iff.1 ht)
  have hj' := (List.getElem?_eq_some_iff.1 ht')
  have := List.pairwise_iff_getElem.1 h.apart i j (by simpa using hi.1) (by simpa using hj'.1) (by omega)
  rw [List.getElem_map, List.getElem_map, hi.2, hj'.2] at this
  exact this q p hq hp e.symm
theorem Lent.onrow (h : Lent w B s T (i + 1)) {p : Addr} (hp : s.a = some p) {k : Nat} {v : Value} (hk : k < (i + 1) * 3) (hl : i < T.length) (hs : SetW w (p.add k) [v] w') : Lent w' B s T (i + 1) ∧ Upd (fun k => k = p.block) w w' := by
  obtain ⟨X, ho, hX, hx⟩ := h.row
  have hsn := h.len
  obtain ⟨h1, u⟩ := ho.setAt hp (by omega) hs
  refine ⟨⟨⟨X.set k v, h1, by simpa using hX, fun j hj => by rw [List.getElem?_set_ne (by omega)]; exact hx j hj⟩, fun j t hj ht => ?_, h.apart⟩, u⟩
  obtain ⟨h2, h3⟩ := h.parts j t hj ht
  exact ⟨h2.upd u fun q hq => own_ne h2 ho (by decide) q p hq hp, h3⟩
end
theorem Upd.then {a b c : World} {R : Nat → Prop} (h : Upd R a b) (k : Upd R b c) : Upd R a c := h.trans k fun _ _ hn => ⟨hn, hn⟩
theorem Upd.still {a b c : World} {R : Nat → Prop} (h : Upd R a b) (k : Ext b c) : Upd R a c := h.trans k fun _ _ hn => ⟨hn, not_false⟩
theorem Upd.one {a b c : World} {R : Nat → Prop} {g : Nat} (h : Upd R a b) (k : Upd (fun i => i = g) b c) (hg : R g) : Upd R a c := h.trans k fun i _ hn => ⟨hn, fun e => hn (e ▸ hg)⟩
theorem set_rep (l : List Int) (k : Nat) (v : Int) (m : List Int) (hk : k < l.length) :
    (iv (List.replicate k v ++ (l ++ m).drop k)).set k (.int .i64 v) = iv (List.replicate (k + 1) v ++ (l ++ m).drop (k + 1)) := by
  apply List.ext_getElem?
  intro j
  unfold iv
  rw [List.getElem?_set]
  simp only [List.getElem?_map, List.getElem?_append, List.length_replicate, List.getElem?_replicate, List.getElem?_drop, List.length_map, List.length_append, List.length_drop]
  by_cases h1 : k = j
  · subst h1
    rw [if_pos rfl, if_pos (by omega), if_pos (by omega), if_pos (by omega)]; rfl
  · rw [if_neg h1]
    by_cases h2 : j < k
    · rw [if_pos h2, if_pos (by omega), if_pos (by omega), if_pos (by omega)]
    · have e1 : k + (j - k) = j := by omega
      have e2 : k + 1 + (j - (k + 1)) = j := by omega
      simp only [if_neg h2, if_neg (show ¬ j < k + 1 by omega), e1, e2]
theorem whole_spec {w0 w1 w : World} {o l : Sl} {T' T : List Tp} (hT : Tys w0 l T) (ha : ArgT T) (hL : Lent w1 w0.heap.size o T' 0) (x0 : Ext w0 w1) (x1 : Ext w1 w) (heq : T'.map (·.1) = (T.map (·.1)).take 300) :
    Calls Try.prog 15 #[.slice o.a o.n o.c, .slice l.a l.n l.c] w fun e w' => e = .returned (.bool true) ∧ Upd (fun k => w0.heap.size ≤ k ∧ k < w1.heap.size) w w' := by
  refine vc_15 _ _ _ _ ?_
  have hln := hL.len
  have htl := hT.len
  have hlen : T'.length ≤ T.length ∧ T'.length ≤ 300 := by
    have := congrArg List.length heq
    simp at this
    omega
  have hMo : ∀ p, o.a = some p → w0.heap.size ≤ p.block ∧ p.block < w1.heap.size := fun p hp => by
    obtain ⟨X, ho, _⟩ := hL.row
    exact ho.base p hp
  have hMp : ∀ (j : Nat) (t : Tp), T'[j]? = some t → ∀ q, t.2.a = some q → w0.heap.size ≤ q.block ∧ q.block < w1.heap.size := fun j t ht q hq => (hL.parts j t (Nat.zero_le _) ht).1.base q hq
  have x01 := x0.trans x1
  have toX : ∀ {w'}, Upd (fun k => w0.heap.size ≤ k ∧ k < w1.heap.size) w w' → Ext w0 w' := fun u => x01.fresh u fun k hk => hk.1
  simp only [eq_self, false_or, or_false, true_and, and_true, decide_eq_true_eq, decide_eq_false_iff_not, gd_st, gd_sf, exists_eq_left', exists_eq_left, Option.some.injEq, Sl.eta, Nat.reduceLeDiff, Int.reduceLE, Int.reduceLT, Int.reduceEq, Int.reduceNe, Nat.reduceMul, Nat.reduceAdd, Nat.reduceSub, Int.toNat_natCast, beq_iff_eq, bne_iff_ne, beq_eq_false_iff_ne, bne_eq_false_iff_eq, pick_and, pick_or, Bool.and_eq_true, Bool.or_eq_true, Bool.and_eq_false_iff, Bool.or_eq_false_iff, ne_eq, not_false_eq_true, Bool.not_eq_true', Bool.not_eq_false', reduceCtorEq, Nat.le_refl, Nat.zero_mul, Nat.mul_one, Nat.zero_add, Int.reduceToNat, ones, one, add_mk, Decidable.not_not, cond_true, cond_false, true_implies, false_implies, implies_true, Bool.not_true, Bool.not_false]
  refine ⟨fun n w' => 0 ≤ n ∧ n ≤ T'.length ∧ Lent w' w0.heap.size o T' n.toNat ∧ Upd (fun k => w0.heap.size ≤ k ∧ k < w1.heap.size) w w', fun n _ => (T'.length - n).toNat, ⟨by omega, by omega, hL.ext x1, Upd.refl _ w⟩, ?_⟩
  rintro _ n w2 ⟨m0, m1, l2, u2⟩
  refine ⟨fun hn => ?_, fun hn => u2⟩
  obtain ⟨i, rfl⟩ : ∃ i : Nat, n = i := ⟨n.toNat, by omega⟩
  rw [Int.toNat_natCast] at l2 ⊢
  obtain ⟨t, ht, htm, hmm⟩ := getM (T := T) (i := i) (by omega)
  obtain ⟨t', ht', _, hmm'⟩ := getM (T := T') (i := i) (by omega)
  have e0 : t'.1 = t.1 := by
    rw [heq, List.getElem?_take, if_pos (by omega), hmm] at hmm'
    injection hmm' with h; exact h.symm
  have h2 := hT.ext (toX u2)
  obtain ⟨p, hp, hc⟩ := h2.cell ht
  obtain ⟨q, hq, hd⟩ := l2.cell (Nat.le_refl _) ht'
  have c0 := hc 0 _ rfl; have c1 := hc 1 _ rfl; have c2 := hc 2 _ rfl
  have d0 := hd 0 _ rfl; have d1 := hd 1 _ rfl; have d2 := hd 2 _ rfl
  have hpl := (h2.parts t htm).leni
  have hal := ha.parts t htm
  obtain ⟨own, on, oc⟩ := l2.parts i t' (Nat.le_refl _) ht'
  rw [e0] at on oc own d0 d2
  obtain ⟨r, hr⟩ : ∃ r, t'.2.a = some r := by
    cases hx : t'.2.a with
    | none =>
      have := (own.none_ hx).1
      have := congrArg Sl.n this
      simp at this
    | some r => exact ⟨r, rfl⟩
  have hcell : ∀ (k : Nat) (v : Int), (t.1.parts ++ [-77, -78])[k]? = some v → w2.cell? (r.add k) = some (.int .i64 v) := fun k v hv => by
    obtain ⟨p', hp', hh⟩ := own.rd.2 (by simp)
    dsimp only at hp'
    rw [hr] at hp'; injection hp' with hp'; subst hp'
    exact hh k _ (by simp only [iv, List.getElem?_map, hv, Option.map_some])
  have hBw : w0.heap.size ≤ w2.heap.size := (toX u2).size
  refine ⟨by omega, by omega, p, hp, t.2, c1, by omega, by omega, q, hq, t'.2, d1, ?_⟩
  rw [wrap_i64 (n := (t.2.n : Int) + 2) (by omega) (by omega), wrap_i64 (n := (t.2.n : Int) + 1) (by omega) (by omega)]
  refine ⟨by omega, by omega, by omega, by omega, q, hq, t'.2, d1, fun _ => ⟨by omega, by omega, q, hq, _, d0, by omega, by omega, p, hp, _, c0, fun _ => ⟨by omega, by omega, q, hq, _, d2, by omega, by omega, p, hp, _, c2, fun _ => ?_, fun h => (h rfl).elim⟩, fun h => (h rfl).elim⟩, fun h => by omega⟩
  rw [cut0]
  refine ⟨by omega, by omega, r, hr, _, hcell t.2.n (-77) (by rw [← hpl]; simp), fun _ => ⟨by omega, by omega, r, hr, _, hcell _ (-78) (by rw [← hpl]; simp), fun w3 q3 => ⟨fun h => (h rfl).elim, fun _ => ?_⟩⟩, fun h => (h rfl).elim⟩
  have u3 := u2.still q3.ext
  have l3 := l2.ext q3.ext
  refine ⟨fun k w' => 0 ≤ k ∧ k ≤ t.2.n ∧ Lent w' w0.heap.size o T' (i + 1) ∧ Own w' w0.heap.size 3 1 ⟨t'.2.a, t.1.parts.length + 2, t.1.parts.length + 2⟩ (iv (List.replicate k.toNat (-5) ++ (t.1.parts ++ [-77, -78]).drop k.toNat)) ∧ Upd (fun k => w0.heap.size ≤ k ∧ k < w1.heap.size) w w', fun k _ => (t.2.n - k).toNat, ⟨by omega, by omega, l3.inside ht' hr (.refl _ w3), own.ext q3.ext, u3⟩, ?_⟩
  rintro _ k w4 ⟨k0, k1, l4, o4, u4⟩
  have h4 := hT.ext (toX u4)
  obtain ⟨p4, hp4, hc4⟩ := h4.cell ht
  refine ⟨fun hk => ?_, fun hk => ?_⟩
  · obtain ⟨k, rfl⟩ : ∃ k' : Nat, k = k' := ⟨k.toNat, by omega⟩
    rw [Int.toNat_natCast] at o4 ⊢
    obtain ⟨pa, va, hpa, hva, hca⟩ := o4.rd.intl k (by dsimp only; omega)
    obtain ⟨pb, vb, hpb, hvb, hcb⟩ := (h4.parts t htm).intl k (by omega)
    rw [Nat.mul_one] at hca hcb
    have ev : va = vb := by
      rw [List.getElem?_append_right (by simp), List.length_replicate, Nat.sub_self, List.getElem?_drop, Nat.add_zero, List.getElem?_append_left (by omega), hvb] at hva
      injection hva with h; exact h.symm
    dsimp only at hpa
    refine ⟨by omega, by omega, pa, hpa, va, hca, by omega, by omega, p4, hp4, t.2, hc4 1 _ rfl, by omega, by omega, pb, hpb, vb, hcb, fun w5 q5 => ⟨fun h => (h ev).elim, fun _ => ?_⟩⟩
    have o5 := o4.ext q5.ext
    refine ⟨by omega, by omega, pa, hpa, o5.canAt hpa (by dsimp only; omega), fun w6 s6 => ⟨⟨by (first | (rw [wrap_i64 (by omega) (by omega)]; omega) | (dsimp only; rw [wrap_i64 (by omega) (by omega)]; omega) | (dsimp only; omega)), by (first | (rw [wrap_i64 (by omega) (by omega)]; omega) | (dsimp only; rw [wrap_i64 (by omega) (by omega)]; omega) | (dsimp only; omega)), ?_, ?_, ?_⟩, by (first | (rw [wrap_i64 (by omega) (by omega)]; omega) | (dsimp only; rw [wrap_i64 (by omega) (by omega)]; omega) | (dsimp only; omega))⟩⟩
    all_goals obtain ⟨o6, u6⟩ := o5.setAt hpa (by dsimp only; omega) s6
    all_goals rw [hr] at hpa
    all_goals obtain rfl : r = pa := by injection hpa
    · obtain ⟨X, ho, hl, hx⟩ := (l4.ext q5.ext).row
      refine ⟨⟨X, ho.upd u6 fun p hp => own_ne ho o5 (by decide) p r hp hr, hl, hx⟩, fun j u hj hu => ?_, l4.apart⟩
      obtain ⟨a1, a2⟩ := (l4.ext q5.ext).parts j u hj hu
      refine ⟨a1.upd u6 fun p hp e => ?_, a2⟩
      have hi := (List.getElem?_eq_some_iff.1 ht')
      have hj' := (List.getElem?_eq_some_iff.1 hu)
      have := List.pairwise_iff_getElem.1 l4.apart i j (by simpa using hi.1) (by simpa using hj'.1) (by omega)
      rw [List.getElem_map, List.getElem_map, hi.2, hj'.2] at this
      exact this r p hr hp e.symm
    · rw [wrap_i64 (by omega) (by omega), show ((k : Int) + 1).toNat = k + 1 by omega, ← set_rep _ _ _ _ (by omega)]
      exact o6
    · exact (u4.still q5.ext).one u6 (hMp i t' ht' r hr)
  · refine ⟨by omega, by omega, q, hq, ?_, fun w5 s5 => ⟨by omega, by omega, q, hq, ?_, fun w6 s6 => ⟨⟨by (first | (rw [wrap_i64 (by omega) (by omega)]; omega) | (dsimp only; rw [wrap_i64 (by omega) (by omega)]; omega) | (dsimp only; omega)), by (first | (rw [wrap_i64 (by omega) (by omega)]; omega) | (dsimp only; rw [wrap_i64 (by omega) (by omega)]; omega) | (dsimp only; omega)), ?_, ?_⟩, by (first | (rw [wrap_i64 (by omega) (by omega)]; omega) | (dsimp only; rw [wrap_i64 (by omega) (by omega)]; omega) | (dsimp only; omega))⟩⟩⟩
    · have := l4.row
      obtain ⟨X, ho, hl, hx⟩ := this
      rw [add_add]
      exact ho.canAt hq (by omega)
    all_goals rw [add_add] at s5
    all_goals obtain ⟨l5, u5⟩ := l4.onrow hq (by omega) (by omega) s5
    · obtain ⟨X, ho, hl, hx⟩ := l5.row
      rw [add_add]
      exact ho.canAt hq (by omega)
    all_goals rw [add_add] at s6
    all_goals obtain ⟨l6, u6⟩ := l5.onrow hq (by omega) (by omega) s6
    · rw [wrap_i64 (by omega) (by omega)]
      exact l6
    · exact (u4.one u5 (hMo q hq)).one u6 (hMo q hq)
end Go.Proofs.Ytiljdcopkgmcbaa.V
