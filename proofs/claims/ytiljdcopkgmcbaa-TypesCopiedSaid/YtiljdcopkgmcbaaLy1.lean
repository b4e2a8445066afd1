/-
  The laws of types: what they share.
-/
import Derived.Test.YtiljdcopkgmcbaaTy8
import Derived.Test.YtiljdcopkgmcbaaVcC
import Derived.Test.YtiljdcopkgmcbaaRow
namespace Go.Proofs.Ytiljdcopkgmcbaa.V
open Go Go.RowKit
set_option linter.unusedVariables false
set_option linter.unusedSimpArgs false
set_option maxRecDepth 100000

theorem shown_spec (w : World) : Calls Try.prog 11 #[] w fun e w' => e = .returned (.bool true) ∧ Ext w w' := by
  refine vc_11 _ _ ?_
  simp only [eq_self, false_or, or_false, true_and, and_true, decide_eq_true_eq, decide_eq_false_iff_not, gd_st, gd_sf, exists_eq_left', exists_eq_left, Option.some.injEq, Sl.eta, Nat.reduceLeDiff, Int.reduceLE, Int.reduceLT, Int.reduceEq, Int.reduceNe, Nat.reduceMul, Nat.reduceAdd, Nat.reduceSub, Int.toNat_natCast, beq_iff_eq, bne_iff_ne, beq_eq_false_iff_ne, bne_eq_false_iff_eq, pick_and, pick_or, Bool.and_eq_true, Bool.or_eq_true, Bool.and_eq_false_iff, Bool.or_eq_false_iff, ne_eq, not_false_eq_true, Bool.not_eq_true', Bool.not_eq_false', reduceCtorEq, Nat.le_refl, Nat.zero_mul, Nat.mul_one, Nat.zero_add, Int.reduceToNat, ones, one, add_mk, Decidable.not_not, cond_true, cond_false, true_implies, false_implies, implies_true, Bool.not_true, Bool.not_false]
  intro w1 n1
  refine ⟨by simp [len', wr], by simp [len', wr, splice, rep], ?_⟩
  intro w2 n2
  have x2 : Ext w w2 := n1.ext.trans n2.ext
  have k1 := (Blk.new n1).ext n2.ext
  have k2 := Blk.new n2
  let T0 : List Tp := [(⟨2, [0, 3], 0⟩, ⟨some ⟨w.heap.size, 0, none⟩, 2, 2⟩), (⟨5, [], 2⟩, ⟨none, 0, 0⟩)]
  have hT : Tys w2 ⟨some ⟨w1.heap.size, 0, none⟩, 2, 2⟩ T0 := by
    refine ⟨?_, fun t ht => ?_⟩
    · exact k2.rd (z := 3) (o := 0) (n := 2) (c := 2) (by simp)
    · simp only [T0, List.mem_cons, List.not_mem_nil, or_false] at ht
      rcases ht with rfl | rfl
      · exact k1.rd (z := 1) (o := 0) (n := 2) (c := 2) (by simp)
      · exact Rd.nil ..
  have hL : T0.map (·.1) = [⟨2, [0, 3], 0⟩, ⟨5, [], 2⟩] := rfl
  refine ⟨(New_spec hT (fun t ht => ?_)).mono ?_⟩
  · simp only [T0, List.mem_cons, List.not_mem_nil, or_false] at ht
    rcases ht with rfl | rfl
    · show 2 ≤ _; omega
    · show 0 ≤ _; omega
  rintro e w3 ⟨x3, ⟨hne, rfl⟩ | ⟨_, g, rfl, ht⟩⟩
  · exact (hne (by rw [hL]; decide)).elim
  rw [hL] at ht
  refine ⟨_, _, rfl, fun _ => ⟨fun h => (by cases h), fun _ => ?_⟩, fun h => absurd rfl h⟩
  have hrec : recordT [⟨2, [0, 3], 0⟩, ⟨5, [], 2⟩] 2 = (⟨1, 2, 2, 2⟩, true) := by rfl
  refine ⟨(record_spec ht 2).mono ?_⟩
  rintro e w4 ⟨rfl, x4⟩
  rw [hrec]
  refine ⟨_, _, _, _, _, rfl, ?_⟩
  intro w5 n5
  have k5 := Blk.new n5
  refine ⟨rfl, k5.canSetN 0 4 (by simp), ?_⟩
  intro w6 s6
  have k6 := hd_set k5 s6
  have x6 : Ext w3 w6 := (x4.trans n5.ext).fresh s6.upd (by rintro i rfl; exact x4.size)
  refine ⟨(len_spec (ht.ext x6)).mono ?_⟩
  rintro e w7 ⟨rfl, rfl⟩
  refine ⟨_, rfl, fun _ => ⟨fun _ => ?_, fun h => (by cases h)⟩, fun h => absurd rfl h⟩
  simp only [k6.cell, List.getElem?_cons_zero, List.getElem?_cons_succ, ex_sl, Value.int.injEq, Value.bool.injEq, Value.pointer.injEq, Value.string.injEq, eq_self, false_or, or_false, true_and, and_true, decide_eq_true_eq, decide_eq_false_iff_not, gd_st, gd_sf, exists_eq_left', exists_eq_left, Option.some.injEq, Sl.eta, Nat.reduceLeDiff, Int.reduceLE, Int.reduceLT, Int.reduceEq, Int.reduceNe, Nat.reduceMul, Nat.reduceAdd, Nat.reduceSub, Int.toNat_natCast, beq_iff_eq, bne_iff_ne, beq_eq_false_iff_ne, bne_eq_false_iff_eq, pick_and, pick_or, Bool.and_eq_true, Bool.or_eq_true, Bool.and_eq_false_iff, Bool.or_eq_false_iff, ne_eq, not_false_eq_true, Bool.not_eq_true', Bool.not_eq_false', reduceCtorEq, Nat.le_refl, Nat.zero_mul, Nat.mul_one, Nat.zero_add, Int.reduceToNat, ones, one, add_mk, Decidable.not_not, cond_true, cond_false, true_implies, false_implies, implies_true, Bool.not_true, Bool.not_false]
  refine ⟨_, _, _, _, rfl, ⟨rfl, rfl, rfl, rfl⟩, fun _ => ⟨_, _, _, _, rfl, ⟨rfl, rfl, rfl, rfl⟩, ⟨(words_spec _ _ _ _ w7).mono ?_⟩⟩, fun h => ?_⟩
  · rintro e w8 ⟨rfl, x8⟩
    exact ⟨_, rfl, rfl, ((x2.trans x3).trans x6).trans x8⟩
  · exfalso; omega

/-- the reading of a list of types that is an argument -/
abbrev TyR : Rw := .cons (.int .i64) (.cons (.sl 8 (.cons (.int .i64) .nil)) (.cons (.int .i64) .nil))
structure ArgT (T : List Tp) : Prop where
  parts : ∀ t ∈ T, t.1.parts.length ≤ 17592186043904
  nums : ∀ t ∈ T, ∀ p ∈ t.1.parts, p ≤ 9223372036854775807
  of : ∀ t ∈ T, t.1.of ≤ 9223372036854775807
  caps : ∀ t ∈ T, t.2.n ≤ t.2.c
theorem is_types {w : World} {v : Value} {x : (Dt.sl 40 TyR).T} (h : (Dt.sl 40 TyR).Is w v x) :
    ∃ T : List Tp, v = .slice x.1.a x.1.n x.1.c ∧ x.1.n ≤ x.1.c ∧ x.1.n ≤ 4000000000000 ∧ Tys w x.1 T ∧ ArgT T := by
  simp only [Dt.Is] at h
  obtain ⟨h1, h2, h3, h4, h5, h6, h7⟩ := h
  rw [reach_eq] at h5
  refine ⟨x.2.map fun y => (⟨y.1, y.2.1.2.map fun z => z.1, y.2.2.1⟩, y.2.1.1), h1, h3, by omega, ⟨⟨?_, fun hn => ?_⟩, fun t ht => ?_⟩, ?_⟩
  · rw [tyFlat_len, List.length_map, h2]
  · obtain ⟨p, hp⟩ : ∃ p, x.1.a = some p := by
      cases ha : x.1.a with
      | none => have := h6 ha; omega
      | some p => exact ⟨p, rfl⟩
    refine ⟨p, hp, fun j v hj => ?_⟩
    have hjl := (List.getElem?_eq_some_iff.1 hj).1
    rw [tyFlat_len, List.length_map] at hjl
    have hi : j / 3 < x.2.length := by omega
    have hm : (x.2.map fun y => ((⟨y.1, y.2.1.2.map fun z => z.1, y.2.2.1⟩, y.2.1.1) : Tp))[j / 3]? = some (⟨x.2[j / 3].1, x.2[j / 3].2.1.2.map fun z => z.1, x.2[j / 3].2.2.1⟩, x.2[j / 3].2.1.1) := by
      rw [List.getElem?_map, List.getElem?_eq_getElem hi]; rfl
    have hg := tyFlat_get _ (j / 3) (j % 3) _ hm (Nat.mod_lt _ (by decide))
    rw [show j / 3 * 3 + j % 3 = j by omega, hj] at hg
    obtain ⟨p', vs, hp', hat, hl, hr⟩ := h7 (j / 3) _ (List.getElem?_eq_getElem hi)
    rw [hp] at hp'; injection hp' with hp'; subst hp'
    simp only [Rw.Is, Dt.Is] at hr
    obtain ⟨_, _, rfl, ⟨rfl, _⟩, _, _, rfl, ⟨rfl, _⟩, _, _, rfl, ⟨rfl, _⟩, rfl⟩ := hr
    have := hat (j % 3) v hg.symm
    rw [add_add] at this
    rw [show j / 3 * Rw.n TyR + j % 3 = j by simp only [Rw.n]; omega] at this
    exact this
  · obtain ⟨y, hy, rfl⟩ := List.mem_map.1 ht
    obtain ⟨i, hi, rfl⟩ := List.getElem_of_mem hy
    obtain ⟨p', vs, hp', hat, hl, hr⟩ := h7 i _ (List.getElem?_eq_getElem hi)
    simp only [Rw.Is] at hr
    obtain ⟨_, _, rfl, _, _, _, rfl, hr, _⟩ := hr
    have := (is_nums hr).2.2.2.2.1
    have e : iv (x.2[i].2.1.2.map fun z => z.1) = x.2[i].2.1.2.map fun z => .int .i64 z.1 := by unfold iv; exact List.map_map
    rw [e]; exact this
  · have key : ∀ t ∈ x.2.map fun y => ((⟨y.1, y.2.1.2.map fun z => z.1, y.2.2.1⟩, y.2.1.1) : Tp), t.1.parts.length ≤ 17592186043904 ∧ (∀ p ∈ t.1.parts, p ≤ 9223372036854775807) ∧ t.1.of ≤ 9223372036854775807 ∧ t.2.n ≤ t.2.c := by
      intro t ht
      obtain ⟨y, hy, rfl⟩ := List.mem_map.1 ht
      obtain ⟨i, hi, rfl⟩ := List.getElem_of_mem hy
      obtain ⟨p', vs, hp', hat, hl, hr⟩ := h7 i _ (List.getElem?_eq_getElem hi)
      simp only [Rw.Is] at hr
      obtain ⟨_, _, rfl, _, _, _, rfl, hr, _, _, rfl, ho, _⟩ := hr
      have hn := is_nums hr
      simp only [Dt.Is] at ho
      have hlen := hn.2.2.2.2.1.len1
      rw [List.length_map] at hlen
      refine ⟨?_, fun p hp => ?_, (wf_i64 ho.2).2, hn.2.1⟩
      · show (x.2[i].2.1.2.map fun z => z.1).length ≤ _
        rw [List.length_map]
        have := hn.2.2.1
        omega
      · obtain ⟨z, hz, rfl⟩ := List.mem_map.1 hp
        exact (wf_i64 (hn.2.2.2.2.2 z hz)).2
    exact ⟨fun t ht => (key t ht).1, fun t ht => (key t ht).2.1, fun t ht => (key t ht).2.2.1, fun t ht => (key t ht).2.2.2⟩
theorem Tys.take {w : World} {s : Sl} {T : List Tp} (h : Tys w s T) {k c : Nat} (hk : k ≤ s.n) : Tys w ⟨s.a, k, c⟩ (T.take k) := by
  have hl := h.len
  refine ⟨⟨by rw [tyFlat_len, List.length_take]; dsimp only; omega, fun hn => ?_⟩, fun t ht => h.parts t (List.mem_of_mem_take ht)⟩
  obtain ⟨p, hp, hc⟩ := h.row.2 (by dsimp only at hn; omega)
  refine ⟨p, hp, fun j v hv => hc j v ?_⟩
  have : tyFlat T = tyFlat (T.take k) ++ tyFlat (T.drop k) := by rw [← tyFlat_append, List.take_append_drop]
  rw [this, List.getElem?_append_left (List.getElem?_eq_some_iff.1 hv).1]
  exact hv
theorem ArgT.take {T : List Tp} (h : ArgT T) (k : Nat) : ArgT (T.take k) :=
  ⟨fun t ht => h.parts t (List.mem_of_mem_take ht), fun t ht => h.nums t (List.mem_of_mem_take ht), fun t ht => h.of t (List.mem_of_mem_take ht), fun t ht => h.caps t (List.mem_of_mem_take ht)⟩
theorem equalL_spec {w : World} {a b : Sl} {xs ys : List Int} (h1 : Rd w 1 a (iv xs)) (h2 : Rd w 1 b (iv ys)) (hm : xs.length ≤ 100000000000000) :
    Calls Try.prog 32 #[.slice a.a a.n a.c, .slice b.a b.n b.c] w fun e w' => e = .returned (.bool (decide (xs = ys))) ∧ Qt w w' := by
  refine vc_32 _ _ _ _ ?_
  have l1 := h1.leni
  have l2 := h2.leni
  simp only [eq_self, false_or, or_false, true_and, and_true, decide_eq_true_eq, decide_eq_false_iff_not, gd_st, gd_sf, exists_eq_left', exists_eq_left, Option.some.injEq, Sl.eta, Nat.reduceLeDiff, Int.reduceLE, Int.reduceLT, Int.reduceEq, Int.reduceNe, Nat.reduceMul, Nat.reduceAdd, Nat.reduceSub, Int.toNat_natCast, beq_iff_eq, bne_iff_ne, beq_eq_false_iff_ne, bne_eq_false_iff_eq, pick_and, pick_or, Bool.and_eq_true, Bool.or_eq_true, Bool.and_eq_false_iff, Bool.or_eq_false_iff, ne_eq, not_false_eq_true, Bool.not_eq_true', Bool.not_eq_false', reduceCtorEq, Nat.le_refl, Nat.zero_mul, Nat.mul_one, Nat.zero_add, Int.reduceToNat, ones, one, add_mk, Decidable.not_not, cond_true, cond_false, true_implies, false_implies, implies_true, Bool.not_true, Bool.not_false]
  refine ⟨fun h => ⟨rb (decide_eq_false fun e => by subst e; omega).symm, Qt.refl w⟩, fun h => ⟨fun n w' => 0 ≤ n ∧ n ≤ xs.length ∧ Qt w w' ∧ ∀ j, j < n.toNat → xs[j]? = ys[j]?, fun n _ => (xs.length - n).toNat, ⟨by omega, by omega, Qt.refl w, fun j hj => by simp at hj⟩, ?_⟩⟩
  rintro _ n w1 ⟨n0, n1, q1, hj⟩
  refine ⟨fun hn => ?_, fun hn => ⟨rb (decide_eq_true ?_).symm, q1⟩⟩
  · obtain ⟨p, x, hp, hx, hc⟩ := (h1.ext q1.ext).intl n.toNat (by omega)
    obtain ⟨q, y, hq, hy, hd⟩ := (h2.ext q1.ext).intl n.toNat (by omega)
    rw [Nat.mul_one] at hc hd
    refine ⟨n0, hn, p, hp, x, hc, n0, by omega, q, hq, y, hd, fun w2 q2 => ⟨fun hne => ⟨rb (decide_eq_false fun e => ?_).symm, q1.trans q2⟩, fun he => ⟨⟨?_, ?_, q1.trans q2, ?_⟩, ?_⟩⟩⟩
    · subst e
      rw [hx] at hy; injection hy with hy; exact hne hy
    · (first | (rw [wrap_i64 (by omega) (by omega)]; omega) | (dsimp only; rw [wrap_i64 (by omega) (by omega)]; omega) | (dsimp only; omega))
    · (first | (rw [wrap_i64 (by omega) (by omega)]; omega) | (dsimp only; rw [wrap_i64 (by omega) (by omega)]; omega) | (dsimp only; omega))
    · rw [wrap_i64 (by omega) (by omega)]
      intro j hjn
      by_cases e : j = n.toNat
      · subst e; rw [hx, hy, he]
      · exact hj j (by omega)
    · (first | (rw [wrap_i64 (by omega) (by omega)]; omega) | (dsimp only; rw [wrap_i64 (by omega) (by omega)]; omega) | (dsimp only; omega))
  · apply List.ext_getElem?
    intro j
    by_cases hjn : j < n.toNat
    · exact hj j hjn
    · rw [List.getElem?_eq_none (by omega), List.getElem?_eq_none (by omega)]
end Go.Proofs.Ytiljdcopkgmcbaa.V
