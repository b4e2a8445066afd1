/-
  The laws of types: Alike, Table.
-/
import Derived.Test.YtiljdcopkgmcbaaLy4
namespace Go.Proofs.Ytiljdcopkgmcbaa.V
open Go Go.RowKit
set_option linter.unusedVariables false
set_option linter.unusedSimpArgs false
set_option maxRecDepth 100000

theorem bool_iff {a b : Bool} {p : Prop} (h : a = true ↔ p) (k : b = true ↔ p) : a = b := by
  cases a <;> cases b <;> simp_all
theorem typesalike_walk (w : World) (v0 v1 : Value) (x0 : (Dt.sl 40 TyR).T) (x1 : (Dt.sl 40 AskR).T) (h0 : (Par.one (.sl 40 TyR)).Is w v0 x0) (h1 : (Par.one (.sl 40 AskR)).Is w v1 x1) :
    Calls Try.prog 4 #[v0, v1] w fun e w' => e = .returned (.bool true) ∧ Ext w w' := by
  obtain ⟨T, rfl, hc, hn, hT, ha⟩ := is_types h0
  obtain ⟨qs, rfl, hcq, hnq, hQ, hq⟩ := is_asks h1
  obtain ⟨l, xl⟩ := x0
  obtain ⟨as_, xas⟩ := x1
  clear h0 h1
  dsimp only at *
  refine vc_4 l as_ _ _ ?_
  simp only [eq_self, false_or, or_false, true_and, and_true, decide_eq_true_eq, decide_eq_false_iff_not, gd_st, gd_sf, exists_eq_left', exists_eq_left, Option.some.injEq, Sl.eta, Nat.reduceLeDiff, Int.reduceLE, Int.reduceLT, Int.reduceEq, Int.reduceNe, Nat.reduceMul, Nat.reduceAdd, Nat.reduceSub, Int.toNat_natCast, beq_iff_eq, bne_iff_ne, beq_eq_false_iff_ne, bne_eq_false_iff_eq, pick_and, pick_or, Bool.and_eq_true, Bool.or_eq_true, Bool.and_eq_false_iff, Bool.or_eq_false_iff, ne_eq, not_false_eq_true, Bool.not_eq_true', Bool.not_eq_false', reduceCtorEq, Nat.le_refl, Nat.zero_mul, Nat.mul_one, Nat.zero_add, Int.reduceToNat, ones, one, add_mk, Decidable.not_not, cond_true, cond_false, true_implies, false_implies, implies_true, Bool.not_true, Bool.not_false]
  refine ⟨(shown_spec w).mono ?_⟩
  rintro e w1 ⟨rfl, x1⟩
  refine ⟨_, rfl, ⟨(New_spec (hT.ext x1) ha.p15).mono ?_⟩⟩
  rintro e w2 ⟨x2, hr⟩
  have rr := rRight_spec (hT.ext (x1.trans x2)) ha.p15 ha.of
  have hql := hQ.len
  rcases hr with ⟨hne, rfl⟩ | ⟨he, g, rfl, ht⟩
  · refine ⟨_, _, rfl, ⟨rr.mono ?_⟩⟩
    rintro e w3 ⟨rfl, x3⟩
    exact ⟨_, _, rfl, fun _ => ⟨fun _ => ⟨fun _ => ⟨fun _ => ⟨rb (by simp), (x1.trans x2).trans x3⟩, fun h => (by cases h)⟩, fun h => (hne h).elim⟩, fun h => (h rfl).elim⟩, fun h => (by cases h)⟩
  · refine ⟨_, _, rfl, ⟨rr.mono ?_⟩⟩
    rintro e w3 ⟨rfl, x3⟩
    have x03 := (x1.trans x2).trans x3
    have hR := rightT_ok.1 he
    refine ⟨_, _, rfl, fun _ => ⟨fun _ => ⟨fun h => (h he).elim, fun _ => ⟨fun n w' => 0 ≤ n ∧ n ≤ as_.n ∧ n ≤ 20 ∧ Ext w3 w', fun n _ => (as_.n - n).toNat, ⟨by omega, by omega, by omega, .refl _⟩, ?_⟩⟩, fun h => (h he.symm).elim⟩, fun h => (by cases h)⟩
    rintro _ n w4 ⟨n0, n1, n2, x4⟩
    refine ⟨fun hlt => ⟨fun h20 => ?_, fun h20 => x03.trans x4⟩, fun hge => x03.trans x4⟩
    obtain ⟨i, rfl⟩ : ∃ i : Nat, n = i := ⟨n.toNat, by omega⟩
    obtain ⟨q, hqi⟩ : ∃ q, qs[i]? = some q := ⟨_, List.getElem?_eq_getElem (by omega)⟩
    obtain ⟨p, hp, c0, c1, _, _⟩ := (hQ.ext (x03.trans x4)).at_ i q hqi
    refine ⟨n0, hlt, p, hp, _, c0, n0, hlt, p, hp, _, c1, ⟨(alike_spec (ht.ext (x3.trans x4)) q.a q.b).mono ?_⟩⟩
    rintro e w5 ⟨r, rfl, hr, x5⟩
    refine ⟨_, rfl, ⟨(ralike_spec (hT.ext ((x03.trans x4).trans x5)) hR q.a q.b).mono ?_⟩⟩
    rintro e w6 ⟨r', rfl, hr', x6⟩
    refine ⟨_, rfl, fun h => (h (bool_iff hr hr')).elim, fun _ => ⟨⟨by (first | (rw [wrap_i64 (by omega) (by omega)]; omega) | (dsimp only; rw [wrap_i64 (by omega) (by omega)]; omega) | (dsimp only; omega)), by (first | (rw [wrap_i64 (by omega) (by omega)]; omega) | (dsimp only; rw [wrap_i64 (by omega) (by omega)]; omega) | (dsimp only; omega)), by (first | (rw [wrap_i64 (by omega) (by omega)]; omega) | (dsimp only; rw [wrap_i64 (by omega) (by omega)]; omega) | (dsimp only; omega)), (x4.trans x5).trans x6⟩, by (first | (rw [wrap_i64 (by omega) (by omega)]; omega) | (dsimp only; rw [wrap_i64 (by omega) (by omega)]; omega) | (dsimp only; omega))⟩⟩
theorem told_spec {w : World} {B g : Nat} {l : Sl} {T : List Tp} (h : Table w B g (T.map (·.1))) (hT : Tys w l T) (ha : ArgT T) (hm : T.length ≤ 1000000000000000) (n : Int) (hn : n ≤ 9223372036854775807) :
    Calls Try.prog 21 #[.pointer (some ⟨g, 0, none⟩), .slice l.a l.n l.c, .int .i64 n] w fun e w' => e = .returned (.bool true) ∧ Ext w w' := by
  refine vc_21 _ _ _ _ _ ?_
  simp only [eq_self, false_or, or_false, true_and, and_true, decide_eq_true_eq, decide_eq_false_iff_not, gd_st, gd_sf, exists_eq_left', exists_eq_left, Option.some.injEq, Sl.eta, Nat.reduceLeDiff, Int.reduceLE, Int.reduceLT, Int.reduceEq, Int.reduceNe, Nat.reduceMul, Nat.reduceAdd, Nat.reduceSub, Int.toNat_natCast, beq_iff_eq, bne_iff_ne, beq_eq_false_iff_ne, bne_eq_false_iff_eq, pick_and, pick_or, Bool.and_eq_true, Bool.or_eq_true, Bool.and_eq_false_iff, Bool.or_eq_false_iff, ne_eq, not_false_eq_true, Bool.not_eq_true', Bool.not_eq_false', reduceCtorEq, Nat.le_refl, Nat.zero_mul, Nat.mul_one, Nat.zero_add, Int.reduceToNat, ones, one, add_mk, Decidable.not_not, cond_true, cond_false, true_implies, false_implies, implies_true, Bool.not_true, Bool.not_false]
  refine ⟨(parts_spec h n).mono ?_⟩
  rintro e w1 ⟨r, rfl, o1, x1⟩
  refine ⟨_, rfl, fun b w' => b = true ∧ Ext w1 w', ⟨(kind_spec (h.ext x1) n).mono ?_⟩, ?_⟩
  · rintro e _ ⟨rfl, rfl⟩
    refine ⟨_, rfl, ⟨(rkind_spec (hT.ext x1) hm n hn).mono ?_⟩⟩
    rintro e _ ⟨rfl, rfl⟩
    refine ⟨_, rfl, fun _ => ⟨(of_spec (h.ext x1) n).mono ?_⟩, fun h => (h rfl).elim⟩
    rintro e _ ⟨rfl, rfl⟩
    refine ⟨_, rfl, ⟨(rof_spec (hT.ext x1) hm n hn).mono ?_⟩⟩
    rintro e _ ⟨rfl, rfl⟩
    refine ⟨_, rfl, fun _ => ⟨(ref_spec (h.ext x1) n).mono ?_⟩, fun h => (h rfl).elim⟩
    rintro e _ ⟨rfl, rfl⟩
    refine ⟨_, rfl, ⟨(rref_spec (hT.ext x1) hm n hn).mono ?_⟩⟩
    rintro e _ ⟨rfl, rfl⟩
    refine ⟨_, rfl, fun _ => ⟨(rparts_spec (hT.ext x1) hm n hn).mono ?_⟩, fun h => (h rfl).elim⟩
    rintro e _ ⟨r2, rfl, hr2, rfl⟩
    refine ⟨_, rfl, ⟨(equalL_spec o1.rd hr2 (by have := partsT_few ha n; omega)).mono ?_⟩⟩
    rintro e w2 ⟨rfl, q2⟩
    exact ⟨_, rfl, decide_eq_true rfl, q2.ext⟩
  · rintro _ b w2 ⟨rfl, x2⟩
    intro w3 n3
    have o3 := (o1.ext x2).ext n3.ext
    have rd3 : Rd w3 1 ⟨some ⟨w2.heap.size, 0, none⟩, 2, 2⟩ [.int .i64 (-9), .int .i64 (-9)] := (Blk.new n3).rd (z := 1) (o := 0) (n := 2) (c := 2) (by simp)
    have hpl := o1.rd.leni
    have hpf := partsT_few ha n
    have x13 := x2.trans n3.ext
    have x03 := x1.trans x13
    obtain ⟨s, w4, hr4, hn4, o4, u4, hb4⟩ := o3.append (t := 34) (ty := 34) tab_ok (by rfl) (by rfl) (by decide) rd3 (fun v hv => by simp at hv; subst hv; trivial) (by dsimp only; omega) (by dsimp only; omega) x03.size
    have x04 : Ext w w4 := x03.fresh u4 fun k hk => by
      obtain ⟨p, hp, rfl⟩ := hk
      exact (o3.base p hp).1
    dsimp only at hn4
    refine ⟨s, w4, hr4, fun n w' => 0 ≤ n ∧ n ≤ s.n ∧ (∃ X, Own w' w.heap.size 3 1 s X) ∧ Ext w w', fun n _ => (s.n - n).toNat, ⟨by omega, by omega, ⟨_, o4⟩, x04⟩, ?_⟩
    rintro _ k w5 ⟨k0, k1, ⟨X, o5⟩, x5⟩
    refine ⟨fun hk => ?_, fun hk => ⟨rfl, x5⟩⟩
    have hs : s.a ≠ none := fun hx => by
      have := (o5.none_ hx).1
      rw [this] at hk
      simp at hk
      omega
    obtain ⟨p, hp⟩ := Option.ne_none_iff_exists'.1 hs
    refine ⟨k0, hk, p, hp, o5.canAt hp (by omega), fun w6 s6 => ?_⟩
    obtain ⟨o6, u6⟩ := o5.setAt hp (by omega) s6
    have hc := o5.cap
    refine ⟨⟨by (first | (rw [wrap_i64 (by omega) (by omega)]; omega) | (dsimp only; rw [wrap_i64 (by omega) (by omega)]; omega) | (dsimp only; omega)), ?_, ⟨_, o6⟩, x5.fresh u6 fun k hk => by rw [hk]; exact (o5.base p hp).1⟩, ?_⟩
    · rw [wrap_i64 (by omega) (by omega)]
      omega
    · (first | (rw [wrap_i64 (by omega) (by omega)]; omega) | (dsimp only; rw [wrap_i64 (by omega) (by omega)]; omega) | (dsimp only; omega))
end Go.Proofs.Ytiljdcopkgmcbaa.V
