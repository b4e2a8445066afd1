/-
  The laws of types: Right; the questions; told.
-/
import Derived.Test.YtiljdcopkgmcbaaLy3
namespace Go.Proofs.Ytiljdcopkgmcbaa.V
open Go Go.RowKit
set_option linter.unusedVariables false
set_option linter.unusedSimpArgs false
set_option maxRecDepth 100000

theorem moved_spec (n b : Int) (w : World) (h0 : -9223372036854775808 ≤ n + b) (h1 : n + b ≤ 9223372036854775807) :
    Calls Try.prog 19 #[.int .i64 n, .int .i64 b] w fun e w' => e = .returned (.int .i64 (if n < 2 then n else n + b)) ∧ w' = w := by
  refine vc_19 _ _ _ _ ?_
  simp only [eq_self, false_or, or_false, true_and, and_true, decide_eq_true_eq, decide_eq_false_iff_not, gd_st, gd_sf, exists_eq_left', exists_eq_left, Option.some.injEq, Sl.eta, Nat.reduceLeDiff, Int.reduceLE, Int.reduceLT, Int.reduceEq, Int.reduceNe, Nat.reduceMul, Nat.reduceAdd, Nat.reduceSub, Int.toNat_natCast, beq_iff_eq, bne_iff_ne, beq_eq_false_iff_ne, bne_eq_false_iff_eq, pick_and, pick_or, Bool.and_eq_true, Bool.or_eq_true, Bool.and_eq_false_iff, Bool.or_eq_false_iff, ne_eq, not_false_eq_true, Bool.not_eq_true', Bool.not_eq_false', reduceCtorEq, Nat.le_refl, Nat.zero_mul, Nat.mul_one, Nat.zero_add, Int.reduceToNat, ones, one, add_mk, Decidable.not_not, cond_true, cond_false, true_implies, false_implies, implies_true, Bool.not_true, Bool.not_false]
  refine ⟨fun h => by rw [if_pos h], fun h => by rw [if_neg h, wrap_i64 h0 h1]⟩
theorem cut_tys {w : World} {l : Sl} {T : List Tp} (h : Tys w l T) {k : Nat} (hk : k ≤ l.n) : Tys w ⟨if l.c = 0 then l.a else Option.map (fun x : Addr => x.add 0) l.a, k, l.c⟩ (T.take k) := by
  rw [cut0]; exact h.take hk
theorem fst_take (T : List Tp) (k : Nat) : (T.take k).map (·.1) = (T.map (·.1)).take k := by rw [List.map_take]
theorem lent_same {T T' : List Tp} (h : T'.map (·.1) = (T.map (·.1)).take 300) (hm : T.length ≤ 300) : T'.map (·.1) = T.map (·.1) := by
  rw [h, List.take_of_length_le (by simpa using hm)]
theorem lent_parts {T T' : List Tp} (h : T'.map (·.1) = T.map (·.1)) (ha : ArgT T) : ∀ t ∈ T', t.1.parts.length ≤ 1000000000000000 := by
  intro t ht
  have : t.1 ∈ T'.map (·.1) := List.mem_map_of_mem ht
  rw [h] at this
  obtain ⟨u, hu, e⟩ := List.mem_map.1 this
  rw [← e]
  have := ha.parts u hu
  omega
theorem ArgT.p15 {T : List Tp} (ha : ArgT T) : ∀ t ∈ T, t.1.parts.length ≤ 1000000000000000 := fun t ht => by have := ha.parts t ht; omega
theorem typesright_walk (w : World) (v0 : Value) (x0 : (Dt.sl 40 TyR).T) (h0 : (Par.one (.sl 40 TyR)).Is w v0 x0) :
    Calls Try.prog 3 #[v0] w fun e w' => e = .returned (.bool true) ∧ Ext w w' := by
  obtain ⟨T, rfl, hc, hn, hT, ha⟩ := is_types h0
  obtain ⟨l, xl⟩ := x0
  clear h0
  dsimp only at *
  refine vc_3 l _ _ ?_
  simp only [eq_self, false_or, or_false, true_and, and_true, decide_eq_true_eq, decide_eq_false_iff_not, gd_st, gd_sf, exists_eq_left', exists_eq_left, Option.some.injEq, Sl.eta, Nat.reduceLeDiff, Int.reduceLE, Int.reduceLT, Int.reduceEq, Int.reduceNe, Nat.reduceMul, Nat.reduceAdd, Nat.reduceSub, Int.toNat_natCast, beq_iff_eq, bne_iff_ne, beq_eq_false_iff_ne, bne_eq_false_iff_eq, pick_and, pick_or, Bool.and_eq_true, Bool.or_eq_true, Bool.and_eq_false_iff, Bool.or_eq_false_iff, ne_eq, not_false_eq_true, Bool.not_eq_true', Bool.not_eq_false', reduceCtorEq, Nat.le_refl, Nat.zero_mul, Nat.mul_one, Nat.zero_add, Int.reduceToNat, ones, one, add_mk, Decidable.not_not, cond_true, cond_false, true_implies, false_implies, implies_true, Bool.not_true, Bool.not_false]
  refine ⟨(shown_spec w).mono ?_⟩
  rintro e w1 ⟨rfl, x1⟩
  have hl := hT.len
  refine ⟨_, rfl, fun s w' => w' = w1 ∧ ∃ T, Tys w1 s T ∧ ArgT T ∧ T.length ≤ 300, ⟨fun h => ⟨by omega, rfl, _, cut_tys (hT.ext x1) (by omega), ha.take 300, by rw [List.length_take]; omega⟩, fun h => ⟨rfl, T, hT.ext x1, ha, by omega⟩⟩, ?_⟩
  rintro _ s _ ⟨rfl, T, hT, ha, hm⟩
  have hl := hT.len
  refine ⟨(lent_spec hT ha (by omega)).mono ?_⟩
  rintro e w2 ⟨r, T', rfl, hL, heq, x2⟩
  have heq' := lent_same heq hm
  refine ⟨_, rfl, ⟨(Right_spec hL.tys (lent_parts heq' ha)).mono ?_⟩⟩
  rintro e w3 ⟨rfl, x3⟩
  refine ⟨_, _, rfl, ⟨(rRight_spec (hT.ext (x2.trans x3)) ha.p15 ha.of).mono ?_⟩⟩
  rintro e w4 ⟨rfl, x4⟩
  refine ⟨_, _, rfl, ⟨(whole_spec hT ha hL x2 (x3.trans x4) heq).mono ?_⟩⟩
  rintro e w5 ⟨rfl, u5⟩
  have x5 : Ext w w5 := x1.trans ((x2.trans (x3.trans x4)).fresh u5 fun k hk => hk.1)
  rw [heq']
  exact ⟨_, rfl, ⟨fun _ => ⟨fun _ => ⟨fun _ => ⟨rfl, x5⟩, fun h => (h rfl).elim⟩, fun h => (h rfl).elim⟩, fun h => (by cases h)⟩⟩

abbrev In64 (x : Int) : Prop := -9223372036854775808 ≤ x ∧ x ≤ 9223372036854775807
abbrev AskR : Rw := .cons (.int .i64) (.cons (.int .i64) (.cons (.sl 8 (.cons (.int .i64) .nil)) .nil))
structure Q where
  a : Int
  b : Int
  s : Sl
  l : List Int
structure Asks (w : World) (s : Sl) (qs : List Q) : Prop where
  len : qs.length = s.n
  at_ : ∀ (i : Nat) (q : Q), qs[i]? = some q → ∃ p, s.a = some p ∧ w.cell? ((p.add (i * 3)).add 0) = some (.int .i64 q.a) ∧ w.cell? ((p.add (i * 3)).add 1) = some (.int .i64 q.b) ∧
    w.cell? ((p.add (i * 3)).add 2) = some (.slice q.s.a q.s.n q.s.c) ∧ Rd w 1 q.s (iv q.l)
theorem Asks.ext {w w' : World} {s : Sl} {qs : List Q} (h : Asks w s qs) (x : Ext w w') : Asks w' s qs :=
  ⟨h.len, fun i q hq => by
    obtain ⟨p, hp, h1, h2, h3, h4⟩ := h.at_ i q hq
    exact ⟨p, hp, x.cell h1 not_false, x.cell h2 not_false, x.cell h3 not_false, h4.ext x⟩⟩
structure ArgQ (qs : List Q) : Prop where
  few : ∀ q ∈ qs, q.l.length ≤ 17592186043904
  a : ∀ q ∈ qs, -9223372036854775808 ≤ q.a ∧ q.a ≤ 9223372036854775807
  b : ∀ q ∈ qs, -9223372036854775808 ≤ q.b ∧ q.b ≤ 9223372036854775807
  l : ∀ q ∈ qs, ∀ x ∈ q.l, -9223372036854775808 ≤ x ∧ x ≤ 9223372036854775807
  caps : ∀ q ∈ qs, q.s.n ≤ q.s.c
theorem is_asks {w : World} {v : Value} {x : (Dt.sl 40 AskR).T} (h : (Dt.sl 40 AskR).Is w v x) :
    ∃ qs : List Q, v = .slice x.1.a x.1.n x.1.c ∧ x.1.n ≤ x.1.c ∧ x.1.n ≤ 4000000000000 ∧ Asks w x.1 qs ∧ ArgQ qs := by
  simp only [Dt.Is] at h
  obtain ⟨h1, h2, h3, h4, h5, h6, h7⟩ := h
  rw [reach_eq] at h5
  have key : ∀ i (hi : i < x.2.length), ∃ p, x.1.a = some p ∧ w.cell? ((p.add (i * 3)).add 0) = some (.int .i64 x.2[i].1) ∧ w.cell? ((p.add (i * 3)).add 1) = some (.int .i64 x.2[i].2.1) ∧
      w.cell? ((p.add (i * 3)).add 2) = some (.slice x.2[i].2.2.1.1.a x.2[i].2.2.1.1.n x.2[i].2.2.1.1.c) ∧ Rd w 1 x.2[i].2.2.1.1 (iv (x.2[i].2.2.1.2.map fun z => z.1)) ∧
      x.2[i].2.2.1.2.length ≤ 17592186043904 ∧ In64 x.2[i].1 ∧ In64 x.2[i].2.1 ∧
      (∀ z ∈ x.2[i].2.2.1.2, In64 z.1) ∧ x.2[i].2.2.1.1.n ≤ x.2[i].2.2.1.1.c := by
    intro i hi
    obtain ⟨p, vs, hp, hat, hl, hr⟩ := h7 i _ (List.getElem?_eq_getElem hi)
    simp only [Rw.Is] at hr
    obtain ⟨_, _, rfl, ha, _, _, rfl, hb, _, _, rfl, hs, rfl⟩ := hr
    have hn := is_nums hs
    simp only [Dt.Is] at ha hb
    obtain ⟨rfl, ha⟩ := ha
    obtain ⟨rfl, hb⟩ := hb
    obtain ⟨hv, n1, n2, n3, n4, n5⟩ := hn
    refine ⟨p, hp, hat 0 _ rfl, hat 1 _ rfl, ?_, ?_, ?_, wf_i64 ha, wf_i64 hb, fun z hz => wf_i64 (n5 z hz), n1⟩
    · rw [← hv]; exact hat 2 _ rfl
    · have e : iv (x.2[i].2.2.1.2.map fun z => z.1) = x.2[i].2.2.1.2.map fun z => .int .i64 z.1 := by unfold iv; exact List.map_map
      rw [e]; exact n4
    · have := n4.len1
      rw [List.length_map] at this
      omega
  have mem : ∀ q ∈ (x.2.map fun y => (⟨y.1, y.2.1, y.2.2.1.1, y.2.2.1.2.map fun z => z.1⟩ : Q)), ∃ i, ∃ hi : i < x.2.length, q = ⟨x.2[i].1, x.2[i].2.1, x.2[i].2.2.1.1, x.2[i].2.2.1.2.map fun z => z.1⟩ := by
    intro q hq
    obtain ⟨y, hy, rfl⟩ := List.mem_map.1 hq
    obtain ⟨i, hi, rfl⟩ := List.getElem_of_mem hy
    exact ⟨i, hi, rfl⟩
  refine ⟨x.2.map fun y => ⟨y.1, y.2.1, y.2.2.1.1, y.2.2.1.2.map fun z => z.1⟩, h1, h3, by omega, ⟨by rw [List.length_map, h2], fun i q hq => ?_⟩, ⟨fun q hq => ?_, fun q hq => ?_, fun q hq => ?_, fun q hq z hz => ?_, fun q hq => ?_⟩⟩
  · have hi := (List.getElem?_eq_some_iff.1 hq).1
    rw [List.length_map] at hi
    rw [List.getElem?_map, List.getElem?_eq_getElem hi] at hq
    simp only [Option.map_some, Option.some.injEq] at hq
    subst hq
    obtain ⟨p, k1, k2, k3, k4, k5, _⟩ := key i hi
    exact ⟨p, k1, k2, k3, k4, k5⟩
  all_goals obtain ⟨i, hi, rfl⟩ := mem q hq
  all_goals obtain ⟨p, k1, k2, k3, k4, k5, k6, k7, k8, k9, k10⟩ := key i hi
  · show (x.2[i].2.2.1.2.map fun z => z.1).length ≤ _
    rw [List.length_map]; exact k6
  · exact k7
  · exact k8
  · obtain ⟨y, hy, rfl⟩ := List.mem_map.1 hz
    exact k9 y hy
  · exact k10
theorem partsT_few {T : List Tp} (ha : ArgT T) (n : Int) : (partsT (T.map (·.1)) n).length ≤ 17592186043904 := by
  unfold partsT
  split
  · split
    · rename_i x hx
      rw [List.getElem?_map] at hx
      obtain ⟨t, ht, rfl⟩ := Option.map_eq_some_iff.1 hx
      exact ha.parts t (List.mem_of_getElem? ht)
    · simp
  · simp
end Go.Proofs.Ytiljdcopkgmcbaa.V
