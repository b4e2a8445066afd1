/-
  Law FlowFrom.
-/
import Derived.Test.YtilaeefmfiihlaaFn
namespace Go.Proofs.Ytilaeefmfiihlaa.V
open Go Go.RowKit
set_option linter.unusedVariables false
set_option linter.unusedSimpArgs false
set_option maxRecDepth 100000

theorem GF.off {w w' : World} {B g : Nat} {c : List Ins} {S : Nat → Prop} (h : GF w B g c) (u : Upd S w w') (hS : ∀ k, S k → ∃ cs, Blk w k 47 cs) : GF w' B g c := by
  obtain ⟨bn, bf, br, bo, bd, rb, ov, o, G, R, h1, h2, O, N⟩ := h
  obtain ⟨⟨_, b1⟩, _, b2⟩ := G.bks
  have no : ∀ {k T : Nat} {cs : List Value}, Blk w k T cs → T ≠ 47 → ¬ S k := fun {k T cs} hb hne hk => by
    obtain ⟨cs', hb'⟩ := hS k hk
    exact hb.ne hb' hne rfl
  exact ⟨bn, bf, br, bo, bd, rb, ov, o, G.upd u (no G.hd (by decide)) (no b1 (by decide)) (no b2 (by decide)) fun k cs hk => no hk (by decide), R.upd u (no R (by decide)), h1, h2, O.upd u (no O (by decide)), N⟩
theorem fromT_le (c : List Ins) (x : Int) : (fromT c x).length ≤ c.length := by
  unfold fromT
  split
  · rw [castL_len]
    have := List.length_filter_le (fun i => decide (x.toNat ∈ nxT c i)) (List.range c.length)
    rw [List.length_range] at this
    exact this
  · exact Nat.zero_le _
theorem lent_off {w w' : World} {B e : Nat} {s : Sl} {oa : Option Addr} {n oc : Nat} {xs : List Value} {c : List Ins} (hs : Rd w 3 s (cdV c)) (o : Own w' w.heap.size e 3 ⟨oa, n, oc⟩ xs) : 0 < s.n → ∀ p q, oa = some p → s.a = some q → q.block ≠ p.block := fun h0 p q hp hq e => by
  obtain ⟨q', hq', h1⟩ := hs.block (by decide) h0
  rw [hq] at hq'; injection hq' with hq'; subst hq'
  have h2 := (o.base p hp).1
  omega
/-- a list of one's own, written over -/
theorem over_loop {P : Program} {w w0 : World} {s : Sl} {xs0 : List Value} {R : World → Prop} {v : Value} {B : Nat} (hB : w.heap.size ≤ B) (o : Own w0 B 3 1 s xs0) (x : Ext w w0) (hm : s.n ≤ 100000) (fin : ∀ w', Ext w w' → R w') :
    ∃ (J : Int → World → Prop) (μ : Int → World → Nat), J 0 w0 ∧ ∀ (junk : Nat → Value) (n : Int) (w' : World), J n w' → (n < (s.n : Int) → 0 ≤ n ∧ n < (s.n : Int) ∧ ∃ p, s.a = some p ∧ CanSet w' (p.add n.toNat) 1 ∧ ∀ w1, SetW w' (p.add n.toNat) [v] w1 → J (IntKind.i64.wrap (n + 1)) w1 ∧ μ (IntKind.i64.wrap (n + 1)) w1 < μ n w') ∧ (¬ n < (s.n : Int) → R w') := by
  refine ⟨fun n w' => ∃ (j : Nat) (xs : List Value), n = (j : Nat) ∧ j ≤ s.n ∧ Own w' B 3 1 s xs ∧ Ext w w', fun n _ => (s.n - n).toNat, ⟨0, _, rfl, Nat.zero_le _, o, x⟩, ?_⟩
  rintro _ n w10 ⟨j, xs, rfl, hj, o10, x10⟩
  have ej : IntKind.i64.wrap ((j : Int) + 1) = ((j + 1 : Nat) : Int) := by rw [wrap_i64 (by omega) (by omega)]; omega
  rw [ej]
  refine ⟨fun hlt => ?_, fun _ => fin _ x10⟩
  obtain ⟨p, hp, _⟩ := o10.rd.2 (by omega)
  rw [Int.toNat_natCast]
  refine ⟨by omega, by omega, p, hp, o10.canAt hp (by omega), fun w11 s11 => ?_⟩
  obtain ⟨o11, u11⟩ := o10.setAt hp (by omega) s11
  exact ⟨⟨j + 1, _, rfl, by omega, o11, x10.fresh u11 (by rintro j rfl; have := (o10.base p hp).1; omega)⟩, by dsimp only; omega⟩
set_option maxHeartbeats 1000000 in
theorem flowfrom_walk (w : World) (v0 v1 : Value) (x0 : (Par.one (.sl 24 InsR)).T) (xa : (Par.one (.int .i64)).T) (h0 : (Par.one (.sl 24 InsR)).Is w v0 x0) (h1 : (Par.one (.int .i64)).Is w v1 xa) :
    Calls Try.prog 10 #[v0, v1] w fun e w' => e = .returned (.bool true) ∧ Ext w w' := by
  obtain ⟨rfl, hcap, c0, hc⟩ := is_code h0
  obtain ⟨code, ls⟩ := x0
  obtain ⟨rfl, _⟩ : v1 = .int .i64 xa ∧ _ := by simpa only [Par.Is, Dt.Is] using h1
  dsimp only at *
  refine vc_10 code _ _ _ ?_
  simp only [eq_self, false_or, or_false, true_and, and_true, decide_eq_true_eq, decide_eq_false_iff_not, gd_st, gd_sf, exists_eq_left', exists_eq_left, Option.some.injEq, Sl.eta, Nat.reduceLeDiff, Int.reduceLE, Int.reduceLT, Int.reduceEq, Int.reduceNe, Nat.reduceMul, Nat.reduceAdd, Nat.reduceSub, Int.toNat_natCast, beq_iff_eq, bne_iff_ne, beq_eq_false_iff_ne, bne_eq_false_iff_eq, pick_and, pick_or, Bool.and_eq_true, Bool.or_eq_true, Bool.and_eq_false_iff, Bool.or_eq_false_iff, ne_eq, not_false_eq_true, Bool.not_eq_true', Bool.not_eq_false', reduceCtorEq, Nat.le_refl, Nat.zero_mul, Nat.mul_one, Nat.zero_add, Int.reduceToNat, ones, one, add_mk, Decidable.not_not, cond_true, cond_false, true_implies, false_implies, implies_true, Bool.not_true, Bool.not_false]
  refine ⟨(shown_spec w).mono ?_⟩
  rintro e w1 ⟨rfl, x1⟩
  refine ⟨_, rfl, ⟨(cut_spec (hc.ext x1) hcap).mono ?_⟩⟩
  rintro e w2 ⟨s, rfl, hs, hscap, hsa, rfl⟩
  obtain ⟨c, rfl⟩ : ∃ c, c = c0.take 40 := ⟨_, rfl⟩
  have hm : (c0.take 40).length ≤ 40 := by rw [List.length_take]; omega
  generalize c0.take 40 = c at *
  have hsn := hs.lenc
  refine ⟨s, rfl, ⟨(lent_spec hs (by omega)).mono ?_⟩⟩
  rintro e w3 ⟨oa, oc, rfl, o3, x3⟩
  have hoff := lent_off (B := 0) hs o3
  refine ⟨⟨oa, s.n, oc⟩, rfl, ⟨(new_spec (code := ⟨oa, s.n, oc⟩) (o3.lentR hsn) (by omega)).mono ?_⟩⟩
  rintro e w4 ⟨g, rfl, G4, x4⟩
  have o4 := o3.ext x4
  have hs4 := hs.ext (x3.trans x4)
  refine ⟨_, rfl, ⟨(kept_spec (code := s) o4 hs4 hoff (by omega)).mono ?_⟩⟩
  rintro e w5 ⟨rfl, u5⟩
  have G5 := G4.off u5 (by
    rintro k ⟨p, hp, rfl⟩
    obtain ⟨g', cs, ha, _, hb, _⟩ := o4.blk (by dsimp only; rw [hp]; simp)
    dsimp only at ha
    rw [hp] at ha; injection ha with ha; subst ha
    exact ⟨_, hb⟩)
  have hs5 : Rd w5 3 s (cdV c) := hs4.upd0 u5 fun h0 q hq => by
    rintro ⟨p, hp, e⟩
    exact hoff h0 p q hp hq e
  have x05 : Ext w w5 := ((x1.trans x3).trans x4).fresh u5 (by rintro j ⟨p, hp, rfl⟩; have := (o3.base p hp).1; have := x1.size; omega)
  refine ⟨_, rfl, fun _ => ⟨fun _ => ⟨fun h => (by cases h), fun _ => ?_⟩, fun h => (by cases h)⟩, fun h => (by cases h)⟩
  refine ⟨fun n w' => ∃ k : Nat, n = (k : Nat) ∧ k ≤ 2 ∧ Ext w5 w', fun n _ => (2 - n).toNat, ⟨0, rfl, Nat.zero_le _, Ext.refl _⟩, ?_⟩
  rintro _ n w6 ⟨k, rfl, hk, x6⟩
  have ek : IntKind.i64.wrap ((k : Int) + 1) = ((k + 1 : Nat) : Int) := by rw [wrap_i64 (by omega) (by omega)]; omega
  rw [ek]
  refine ⟨fun hlt => ⟨(reached_spec (G5.ext x6) (by omega)).mono ?_⟩, fun hge => ⟨(from_spec (G5.ext x6) (by omega) xa).mono ?_⟩⟩
  rotate_left
  · rintro e w7 ⟨s7, rfl, o7, x7⟩
    refine ⟨s7, rfl, ⟨(rfrom_spec (hs5.ext (x6.trans x7)) (by omega) xa).mono ?_⟩⟩
    rintro e w8 ⟨s8, rfl, o8, x8⟩
    refine ⟨s8, rfl, ⟨(equal_spec (o7.ext x8).rd o8.rd (by have := fromT_le c xa; omega)).mono ?_⟩⟩
    rintro e w9 ⟨rfl, x9⟩
    refine ⟨_, rfl, by rw [decide_eq_true rfl], (((x05.trans x6).trans x7).trans x8).trans x9⟩
  rintro e w7 ⟨s7, rfl, o7, x7⟩
  refine ⟨s7, rfl, ⟨(rreached_spec (hs5.ext (x6.trans x7)) (by omega)).mono ?_⟩⟩
  rintro e w8 ⟨s8, rfl, o8, x8⟩
  have h7n : c.length = s7.n := by simpa using o7.len1
  have h8n : c.length = s8.n := by simpa using o8.len1
  refine ⟨s8, rfl, fun hne => absurd (by omega) hne, fun _ => ?_⟩
  refine ⟨fun n w' => ∃ (i : Nat) (xs : List Value), n = (i : Nat) ∧ i ≤ c.length ∧ Own w' w6.heap.size 4 1 s7 xs ∧ (∀ j, i ≤ j → xs[j]? = (bbv (rcL c))[j]?) ∧ Own w' w7.heap.size 4 1 s8 (bbv (rcL c)) ∧ Ext w6 w', fun n _ => (c.length - n).toNat, ⟨0, _, rfl, Nat.zero_le _, o7.ext x8, fun _ _ => rfl, o8, x7.trans x8⟩, ?_⟩
  rintro _ n w9 ⟨i, xs, rfl, hi, o9, hxs, p9, x9⟩
  have ei : IntKind.i64.wrap ((i : Int) + 1) = ((i + 1 : Nat) : Int) := by rw [wrap_i64 (by omega) (by omega)]; omega
  rw [ei]
  refine ⟨fun hlt => ?_, fun hge => ?_⟩
  · have hic : i < c.length := by omega
    obtain ⟨p, hp, hcp⟩ := o9.rd.2 (by omega)
    obtain ⟨q, hq, hcq⟩ := p9.rd.2 (by omega)
    have hb : (bbv (rcL c))[i]? = some (.bool (rB c i)) := by unfold bbv; rw [List.getElem?_map, rcL_get hic]; rfl
    have hc9 := hcp i _ (by rw [hxs i (Nat.le_refl _)]; exact hb)
    have hc8 := hcq i _ hb
    simp only [Int.toNat_natCast]
    refine ⟨by omega, by omega, p, hp, _, hc9, by omega, by omega, q, hq, _, hc8, fun w10 q10 => ⟨fun hne => absurd rfl hne, fun _ => ⟨by omega, by omega, p, hp, _, q10.ext.cell hc9 id, by omega, by omega, p, hp, (o9.ext q10.ext).canAt hp (by omega), fun w11 s11 => ?_⟩⟩⟩
    obtain ⟨o11, u11⟩ := (o9.ext q10.ext).setAt hp (by omega) s11
    refine ⟨⟨i + 1, _, rfl, by omega, o11, fun j hj => by rw [List.getElem?_set_ne (by omega)]; exact hxs j (by omega), (p9.ext q10.ext).upd u11 ?_, (x9.trans q10.ext).fresh u11 (by rintro j rfl; exact (o9.base p hp).1)⟩, by omega⟩
    intro p' hp' e
    have h1 := (o8.base p' hp').1
    have h2 := (o7.base p hp).2
    omega
  refine ⟨fun n w' => ∃ m : Nat, n = (m : Int) - 1 ∧ m ≤ s.n + 2 ∧ Ext w6 w', fun n _ => (s.n + 1 - n).toNat, ⟨0, rfl, Nat.zero_le _, x9⟩, ?_⟩
  rintro _ n w10 ⟨m, rfl, hm', x10⟩
  have em : IntKind.i64.wrap ((m : Int) - 1 + 1) = ((m + 1 : Nat) : Int) - 1 := by rw [wrap_i64 (by omega) (by omega)]; omega
  rw [em]
  refine ⟨fun hle => ⟨(from_spec (G5.ext (x6.trans x10)) (by omega) _).mono ?_⟩, fun hgt => ⟨⟨k + 1, rfl, by omega, x6.trans x10⟩, by dsimp only; omega⟩⟩
  rintro e w11 ⟨s11, rfl, o11, x11⟩
  refine ⟨s11, rfl, ⟨(rfrom_spec (hs5.ext ((x6.trans x10).trans x11)) (by omega) _).mono ?_⟩⟩
  rintro e w12 ⟨s12, rfl, o12, x12⟩
  have hfl := fromT_le c ((m : Int) - 1)
  have h11n := o11.rd.leni
  refine ⟨s12, rfl, ⟨(equal_spec (o11.ext x12).rd o12.rd (by omega)).mono ?_⟩⟩
  rintro e w13 ⟨rfl, x13⟩
  refine ⟨_, rfl, fun hb => absurd rfl (of_decide_eq_false hb), fun _ => ?_⟩
  exact over_loop (P := Try.prog) (Nat.le_refl _) ((o11.ext x12).ext x13) ((x11.trans x12).trans x13) (by omega) fun w14 x14 => ⟨⟨m + 1, rfl, by omega, x10.trans x14⟩, by dsimp only; omega⟩
end Go.Proofs.Ytilaeefmfiihlaa.V
