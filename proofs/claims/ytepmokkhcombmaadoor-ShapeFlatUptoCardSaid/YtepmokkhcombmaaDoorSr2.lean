/-
  ShapeRenamed: its walk.
-/
import Derived.Test.YtepmokkhcombmaaDoorSr1
import Derived.Test.YtepmokkhcombmaaDoorSvb
namespace Go.Proofs.YtepmokkhcombmaaDoor.V
open Go Go.RowKit
set_option linter.unusedVariables false
set_option linter.unusedSimpArgs false
set_option linter.unusedSectionVars false
set_option maxRecDepth 100000

theorem wrap_odd (x : Nat) : ∃ b : Nat, IntKind.u64.wrap (IntKind.u64.wrap (2 * (x : Int)) + 1) = (b : Nat) ∧ b % 2 = 1 ∧ b < M64 := by
  rw [show (2 : Int) * x = ((2 * x : Nat) : Int) by omega, wrap_u64mod, show (((2 * x % 18446744073709551616 : Nat) : Int) + 1) = ((2 * x % 18446744073709551616 + 1 : Nat) : Int) by omega, wrap_u64mod]
  exact ⟨_, rfl, by omega, by unfold M64; omega⟩
set_option maxHeartbeats 1000000 in
theorem shaperenamed_walk (w : World) (L : Lay w) (v0 v1 v2 : Value) (x0 : (Par.one (.sl 64 RowR)).T) (x1 : (Par.one (.sl 48 ThR)).T) (x2 : (Par.one (.int .u64)).T) (h0 : (Par.one (.sl 64 RowR)).Is w v0 x0) (h1 : (Par.one (.sl 48 ThR)).Is w v1 x1) (h2 : (Par.one (.int .u64)).Is w v2 x2)
    (hbk : (Par.one (.sl 64 RowR)).bulk x0 + ((Par.one (.sl 48 ThR)).bulk x1 + ((Par.one (.int .u64)).bulk x2 + 0)) ≤ 1048576) :
    Calls Tryd.prog 4 #[v0, v1, v2] w fun e w' => e = .returned (.bool true) ∧ Ext w w' := by
  obtain ⟨rfl, hR, okr⟩ := is_rows h0
  obtain ⟨rfl, hL, okt, okid⟩ := is_things h1
  obtain ⟨rfl, wf2⟩ := h2
  have wf2 := wf_u64 wf2
  have D := dok_of okr okt hbk
  have hT := tbf L
  clear hbk h0 h1
  obtain ⟨n2, e2⟩ : ∃ n : Nat, @Eq Int x2 ((n : Nat) : Int) := ⟨Int.toNat x2, (Int.toNat_of_nonneg wf2.1).symm⟩
  rw [e2]
  generalize x0.1 = l at *
  generalize x1.1 = ths at *
  generalize x0.2.map rpOf = R at hR okr D
  generalize x1.2.map thOf = T at hL okt okid D
  obtain ⟨b, eb, ob, lb⟩ := wrap_odd n2
  have P : Ren (byT b) := ren_by ob
  have hRn := hR.n (Ext.refl w)
  have hLn := hL.n (Ext.refl w)
  have hRl := D.rs.1
  have hTl := D.lm
  refine vc_4 _ _ _ _ _ ?_
  simp only [eq_self, false_or, or_false, true_and, and_true, decide_eq_true_eq, decide_eq_false_iff_not, gd_st, gd_sf, exists_eq_left', exists_eq_left, Option.some.injEq, Sl.eta, Nat.reduceLeDiff, Int.reduceLE, Int.reduceLT, Int.reduceEq, Int.reduceNe, Nat.reduceMul, Nat.reduceAdd, Nat.reduceSub, Int.toNat_natCast, beq_iff_eq, bne_iff_ne, beq_eq_false_iff_ne, bne_eq_false_iff_eq, pick_and, pick_or, Bool.and_eq_true, Bool.or_eq_true, Bool.and_eq_false_iff, Bool.or_eq_false_iff, ne_eq, not_false_eq_true, Bool.not_eq_true', Bool.not_eq_false', reduceCtorEq, Nat.le_refl, Nat.zero_mul, Nat.mul_one, Nat.zero_add, Int.reduceToNat, ones, one, add_mk, Decidable.not_not, cond_true, cond_false, true_implies, false_implies, implies_true, Bool.not_true, Bool.not_false]
  simp only [eb]
  refine ⟨(shown_spec hT).mono ?_⟩
  rintro e w1 ⟨rfl, y1⟩
  refine ⟨_, rfl, fun h => (by cases h), fun _ => ?_⟩
  refine ⟨fun sl n w' => ∃ k : Nat, n = (k : Nat) ∧ k ≤ R.length ∧ RwG 36 42 w' w1.heap.size sl ((R.take k).map (renR (byT b))) ∧ Ext w1 w', fun _ n _ => (R.length - n).toNat, ⟨0, rfl, Nat.zero_le _, RwG.nil _ _, Ext.refl _⟩, ?_⟩
  rintro _ sl n w2 ⟨k, rfl, hk, g2, y2⟩
  have ek : IntKind.i64.wrap ((k : Int) + 1) = ((k + 1 : Nat) : Int) := by rw [wrap_i64 (by omega) (by omega)]; omega
  rw [ek]
  refine ⟨fun hlt w3 q3 => ?_, fun hge => ?_⟩
  · obtain ⟨t, ht⟩ : ∃ t, R[k]? = some t := ⟨_, List.getElem?_eq_getElem (by omega)⟩
    obtain ⟨p, s1, s2, hp, hc⟩ := hR.at_ (Ext.refl w) ht
    have y3 := y2.trans q3.ext
    have y03 := y1.trans y3
    have cc := fun w' (u : Upd (fun _ => False) w3 w') => hc w' (y03.trans u)
    obtain ⟨ml, ms⟩ := D.rs.2 t (List.mem_of_getElem? ht)
    simp only [Int.toNat_natCast]
    refine ⟨fun _ => False, by omega, by omega, p, hp, _, fun w' u => (cc w' u).1, by omega, by omega, p, hp, _, fun w' u => (cc w' u).2.1, by omega, by omega, p, hp, s1, fun w' u => (cc w' u).2.2.1, by omega, by omega, p, hp, s2, fun w' u => (cc w' u).2.2.2.1, ⟨(renamed_spec (b := b) (cc w3 (Upd.refl _ _)).2.2.2.2.1 ml).mono ?_⟩⟩
    rintro e w4 ⟨s3, rfl, o3, x4⟩
    refine ⟨s3, rfl, x4, ⟨(renamed_spec (b := b) (cc w4 x4).2.2.2.2.2 ms).mono ?_⟩⟩
    rintro e w5 ⟨s4, rfl, o4, x5⟩
    refine ⟨s4, rfl, x5, (by show 2 ≤ 4; decide), (by show 3 ≤ 4; decide), (by show 4 ≤ 4; decide), rfl, fun w6 n6 => ⟨n6.ext, ?_⟩⟩
    have z2 := y2.size
    have z3 := q3.size
    have z4 := x4.size
    have z5 := x5.size
    have z6 := n6.size
    have g6 := (((g2.ext q3.ext).ext x4).ext x5).ext n6.ext
    have rd : Rd w6 4 ⟨some ⟨w5.heap.size, 0, none⟩, 1, 1⟩ (rwV [((renR (byT b) t).fn, (renR (byT b) t).pl, s3, s4)]) := (Blk.new n6).rd (z := 4) (o := 0) (n := 1) (c := 1) (by simp)
    have hlen : ((R.take k).map (renR (byT b))).length = k := by rw [List.length_map, List.length_take]; omega
    obtain ⟨s', w7, hr7, g7, u7, _⟩ := g6.push (g := 0) (t := 22) (ty := 22) (by rfl) (by rfl) (by decide) rd rfl (((o3.ext x5).ext n6.ext).mono (by omega)) ((o4.ext n6.ext).mono (by omega)) (by rw [hlen]; omega) (by rw [hlen]; omega) (by omega)
    rw [show [renR (byT b) t] = [t].map (renR (byT b)) from rfl, ← List.map_append, ← take_snoc ht] at g7
    exact ⟨s', w7, hr7, ⟨k + 1, rfl, by omega, g7, (((y3.trans x4).trans x5).trans n6.ext).fresh u7 fun i hi => hi⟩, by omega⟩
  have : k = R.length := by omega
  subst this
  rw [List.take_length] at g2
  have em : IntKind.i64.wrap ((ths.n : Int) - 1) = (ths.n : Int) - 1 := by rw [wrap_i64 (by omega) (by omega)]
  rw [em]
  refine ⟨fun so n w' => ∃ (k : Nat) (O : List Th), n = (k : Int) - 1 ∧ k ≤ T.length ∧ OwnT (byT b) T k O ∧ ThG 39 42 w' w1.heap.size so O ∧ RwG 36 42 w' w1.heap.size sl (R.map (renR (byT b))) ∧ Ext w1 w', fun _ n _ => (n + 1).toNat, ⟨T.length, [], by rw [hLn], Nat.le_refl _, OwnT.start T, ThG.nil _ _, g2, y2⟩, ?_⟩
  rintro _ so n w3 ⟨k, O, rfl, hk, hO, th3, g3, y3⟩
  have y03 := y1.trans y3
  refine ⟨fun hge => ?_, fun hlt => ?_⟩
  · obtain ⟨j, rfl⟩ : ∃ j, k = j + 1 := ⟨k - 1, by omega⟩
    obtain ⟨t, ht⟩ : ∃ t, T[j]? = some t := ⟨_, List.getElem?_eq_getElem (by omega)⟩
    obtain ⟨p, sc, hp, hc⟩ := hL.at_ (Ext.refl w) ht
    have ej : ((j + 1 : Nat) : Int) - 1 = (j : Nat) := by omega
    have ej2 : IntKind.i64.wrap ((j : Int) - 1) = (j : Int) - 1 := by rw [wrap_i64 (by omega) (by omega)]
    simp only [ej, ej2]
    refine ⟨fun c n w' => ∃ i : Nat, n = (i : Nat) ∧ i ≤ j ∧ (c = true → ∀ (i' : Nat) (t' : Th), i' < i → T[i']? = some t' → t'.id ≠ t.id) ∧ (c = false → ∃ (i' : Nat) (t' : Th), i' < j ∧ T[i']? = some t' ∧ t'.id = t.id) ∧ Ext w3 w', fun _ n _ => (j - n).toNat, ⟨0, rfl, Nat.zero_le _, fun _ i' t' h => absurd h (Nat.not_lt_zero _), fun h => (by cases h), Ext.refl _⟩, ?_⟩
    rintro _ c n w4 ⟨i, rfl, hi, hc1, hc2, x4⟩
    have ei : IntKind.i64.wrap ((i : Int) + 1) = ((i + 1 : Nat) : Int) := by rw [wrap_i64 (by omega) (by omega)]; omega
    rw [ei]
    have y04 := y03.trans x4
    simp only [Int.toNat_natCast]
    refine ⟨fun hlt => ⟨fun hct => ?_, fun hcf w5 q5 => ⟨⟨i + 1, rfl, by omega, fun h => (by cases h), fun _ => hc2 hcf, x4.trans q5.ext⟩, by omega⟩⟩, fun hge2 => ⟨fun hct w5 q5 => ?_, fun hcf => ?_⟩⟩
    · obtain ⟨t', ht'⟩ : ∃ t, T[i]? = some t := ⟨_, List.getElem?_eq_getElem (by omega)⟩
      obtain ⟨p', sc', hp', hc'⟩ := hL.at_ (Ext.refl w) ht'
      rw [hp] at hp'; injection hp' with hp'; subst hp'
      refine ⟨by omega, by omega, p, hp, _, (hc' w4 y04).1, by omega, by omega, p, hp, _, (hc w4 y04).1, fun w5 q5 => ⟨⟨i + 1, rfl, by omega, fun h i' t'' hi' ht'' => ?_, fun h => ⟨i, t', by omega, ht', ?_⟩, x4.trans q5.ext⟩, by omega⟩⟩
      · rcases Nat.lt_or_ge i' i with h3 | h3
        · exact hc1 hct i' t'' h3 ht''
        · have : i' = i := by omega
          subst this
          rw [ht'] at ht''; injection ht'' with ht''; subst ht''
          simp at h
          omega
      · simp at h
        omega
    · have hij : i = j := by omega
      subst hij
      have y5 := y3.trans (x4.trans q5.ext)
      have y05 := y1.trans y5
      have cc := fun w' (u : Upd (fun _ => False) w5 w') => hc w' (y05.trans u)
      have mc := D.lc t (List.mem_of_getElem? ht)
      refine ⟨fun _ => False, by omega, by omega, p, hp, _, fun w' u => (cc w' u).1, by omega, by omega, p, hp, _, fun w' u => (cc w' u).2.1, by omega, by omega, p, hp, sc, fun w' u => (cc w' u).2.2.1, ⟨(renamed_spec (b := b) (cc w5 (Upd.refl _ _)).2.2.2 mc).mono ?_⟩⟩
      rintro e w6 ⟨s6, rfl, o6, x6⟩
      have ew : IntKind.u64.wrap (((t.id : Nat) : Int) * ((b : Nat) : Int)) = ((byT b t.id : Nat) : Int) := by rw [← Int.natCast_mul, wrap_u64mod]
      rw [ew]
      refine ⟨s6, rfl, x6, (by show 2 ≤ 3; decide), (by show 3 ≤ 3; decide), rfl, fun w7 n7 => ⟨n7.ext, ?_⟩⟩
      have z3 := y3.size
      have z4 := x4.size
      have z5 := q5.size
      have z6 := x6.size
      have z7 := n7.size
      have x37 := ((x4.trans q5.ext).trans x6).trans n7.ext
      have rd : Rd w7 3 ⟨some ⟨w6.heap.size, 0, none⟩, 1, 1⟩ (thV [((renT (byT b) t).id, (renT (byT b) t).lab, s6)]) := (Blk.new n7).rd (z := 3) (o := 0) (n := 1) (c := 1) (by simp)
      have hOl := hO.2.2
      obtain ⟨s', w8, hr8, g8, u8, kp⟩ := (th3.ext x37).push (g := 0) (t := 23) (ty := 23) (by rfl) (by rfl) (by decide) rd rfl ((o6.ext n7.ext).mono (by have := y5.size; omega)) (by omega) (by omega) (by omega)
      refine ⟨s', w8, hr8, ⟨i, O ++ [renT (byT b) t], rfl, by omega, hO.take P ht okid (hc1 hct), g8, (g3.ext x37).keep kp (by decide) (by decide), (y3.trans x37).fresh u8 fun i hi => hi⟩, by omega⟩
    · obtain ⟨i', t', hi', ht', e⟩ := hc2 hcf
      have hij : i = j := by omega
      subst hij
      exact ⟨⟨i, O, rfl, by omega, hO.skip P ht hi' ht' e, th3.ext x4, g3.ext x4, y3.trans x4⟩, by omega⟩
  have : k = 0 := by omega
  subst this
  refine ⟨(viewed_spec (b := 0) (hR.mono fun w' u => y03.trans u) (hL.mono fun w' u => y03.trans u) D (by decide) (hT.ext y03)).mono ?_⟩
  rintro e w4 ⟨qs, rfl, _, x4⟩
  have y04 := y03.trans x4
  refine ⟨_, qs, rfl, ⟨(viewed_spec (b := 0) (g3.ext x4).rwk (th3.ext x4).thk (dok_ren P D hO) (by decide) (hT.ext y04)).mono ?_⟩⟩
  rintro e w5 ⟨qs2, rfl, _, x5⟩
  refine ⟨_, qs2, rfl, ?_⟩
  rw [of0, of0, seenT_ren P (of_ := findT T) (fun id _ => D.okf id) (fun id hid => hO.find hid) D.okr]
  exact ⟨by simp, y04.trans x5⟩
end Go.Proofs.YtepmokkhcombmaaDoor.V
