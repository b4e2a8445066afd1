/-
  Law FlowOrder.
-/
import Derived.Test.YtilaeefmfiihlaaFlb
import Derived.Test.YtilaeefmfiihlaaVcD
import Derived.Test.YtilaeefmfiihlaaRow
namespace Go.Proofs.Ytilaeefmfiihlaa.V
open Go Go.RowKit
set_option linter.unusedVariables false
set_option linter.unusedSimpArgs false
set_option maxRecDepth 100000

abbrev InsR : Rw := .cons (.int .i64) (.cons (.int .i64) (.cons (.int .i64) .nil))
theorem is_code {w : World} {v : Value} {x : (Dt.sl 24 InsR).T} (h : (Dt.sl 24 InsR).Is w v x) : v = .slice x.1.a x.1.n x.1.c ∧ x.1.n ≤ x.1.c ∧ ∃ c : List Ins, Rd w 3 x.1 (cdV c) := by
  have h' := h
  unfold Dt.Is at h'
  obtain ⟨h1, h2, h3, h4, h5, h6, h7⟩ := h'
  refine ⟨h1, h3, x.2.map fun y => ⟨y.1, y.2.1, y.2.2.1⟩, by rw [cdV_len, List.length_map, h2], fun hn => ?_⟩
  obtain ⟨y0, hy0⟩ : ∃ y, x.2[0]? = some y := ⟨_, List.getElem?_eq_getElem (by omega)⟩
  obtain ⟨p, _, hp, _⟩ := h7 0 y0 hy0
  refine ⟨p, hp, fun j v hj => ?_⟩
  have hjl := (List.getElem?_eq_some_iff.1 hj).1
  rw [cdV_len, List.length_map] at hjl
  obtain ⟨y, hy⟩ : ∃ y, x.2[j / 3]? = some y := ⟨_, List.getElem?_eq_getElem (by omega)⟩
  obtain ⟨p', vs, hp', ha, hl, hi⟩ := h7 _ y hy
  rw [hp] at hp'; injection hp' with hp'; subst hp'
  simp only [Rw.Is] at hi
  obtain ⟨_, _, rfl, i0, _, _, rfl, i1, _, _, rfl, i2, rfl⟩ := hi
  obtain ⟨rfl, j0⟩ : _ = _ ∧ _ := by simpa only [Dt.Is] using i0
  obtain ⟨rfl, j1⟩ : _ = _ ∧ _ := by simpa only [Dt.Is] using i1
  obtain ⟨rfl, j2⟩ : _ = _ ∧ _ := by simpa only [Dt.Is] using i2
  have hg := cdV_get (c := x.2.map fun y => (⟨y.1, y.2.1, y.2.2.1⟩ : Ins)) (i := j / 3) (x := ⟨y.1, y.2.1, y.2.2.1⟩) (by rw [List.getElem?_map, hy]; rfl) (j % 3) (by omega)
  rw [show j / 3 * 3 + j % 3 = j by omega] at hg
  rw [hg] at hj
  have := ha (j % 3) v hj
  rw [add_add] at this
  rw [show j / 3 * InsR.n + j % 3 = j by show j / 3 * 3 + j % 3 = j; omega] at this
  exact this
theorem no_av0 {E : Nat → Nat → Prop} {x : Nat} (h : Av E 0 x) : False := by
  induction h with
  | zero h => exact h rfl
  | step _ _ _ ih => exact ih
theorem Ch.strict {R : Nat → Prop} {o : Nat → Nat} {ov : Nat → Option Nat} {x y : Nat} (i1 : ∀ x z, ov x = some z → R x ∧ R z ∧ Pd ov z ∧ o z < o x) (h : Ch ov x y) : x = y ∨ o y < o x := by
  cases h with
  | refl _ => exact .inl rfl
  | step e h => have := (i1 _ _ e).2.2.2; have := h.ord i1; exact .inr (by omega)
section
variable {c : List Ins} {a b d f : Nat}
theorem overB_nat (ha : a < c.length) (hb : b < c.length) : overB c (a : Nat) (b : Nat) = true ↔ Over c a b := by
  unfold overB
  simp only [decide_eq_true_eq, Int.toNat_natCast]
  exact ⟨fun h => h.2.2.2.2, fun h => ⟨by omega, by omega, by omega, by omega, h⟩⟩
theorem over_self : Over c a a ↔ Rc c a := ⟨fun h => h.1, fun h => ⟨h, h, not_av⟩⟩
theorem over_zero : Over c a 0 ↔ Rc c a := ⟨fun h => h.1, fun h => ⟨h, Rc_zero (by rintro rfl; exact absurd (Rc_lt h) (Nat.not_lt_zero _)), no_av0⟩⟩
theorem over_anti {o : Nat → Nat} {ov : Nat → Option Nat} (N : NearOk c o ov) (h : Over c a b) (k : Over c b a) : a = b := by
  have h1 := (N.D a h.1 b).2 h.2.2
  have h2 := (N.D b k.1 a).2 k.2.2
  rcases h1.strict N.I.i1 with e | e
  · exact e
  · rcases h2.strict N.I.i1 with e' | e'
    · exact e'.symm
    · omega
theorem over_trans {o : Nat → Nat} {ov : Nat → Option Nat} (N : NearOk c o ov) (h : Over c a b) (k : Over c b d) : Over c a d :=
  ⟨h.1, k.2.1, (N.D a h.1 d).1 (((N.D a h.1 b).2 h.2.2).trans ((N.D b k.1 d).2 k.2.2))⟩
theorem over_from (h : Over c a b) (hne : a ≠ b) (e : a ∈ nxT c f) (hf : Rc c f) : Over c f b := ⟨hf, h.2.1, fun hh => h.2.2 (.step hh e hne)⟩
end
set_option maxHeartbeats 1000000 in
theorem floworder_walk (w : World) (v0 : Value) (x0 : (Par.one (.sl 24 InsR)).T) (h0 : (Par.one (.sl 24 InsR)).Is w v0 x0) :
    Calls Try.prog 3 #[v0] w fun e w' => e = .returned (.bool true) ∧ Ext w w' := by
  obtain ⟨rfl, hcap, c0, hc⟩ := is_code h0
  obtain ⟨code, ls⟩ := x0
  dsimp only at *
  refine vc_3 code _ _ ?_
  simp only [eq_self, false_or, or_false, true_and, and_true, decide_eq_true_eq, decide_eq_false_iff_not, gd_st, gd_sf, exists_eq_left', exists_eq_left, Option.some.injEq, Sl.eta, Nat.reduceLeDiff, Int.reduceLE, Int.reduceLT, Int.reduceEq, Int.reduceNe, Nat.reduceMul, Nat.reduceAdd, Nat.reduceSub, Int.toNat_natCast, beq_iff_eq, bne_iff_ne, beq_eq_false_iff_ne, bne_eq_false_iff_eq, pick_and, pick_or, Bool.and_eq_true, Bool.or_eq_true, Bool.and_eq_false_iff, Bool.or_eq_false_iff, ne_eq, not_false_eq_true, Bool.not_eq_true', Bool.not_eq_false', reduceCtorEq, Nat.le_refl, Nat.zero_mul, Nat.mul_one, Nat.zero_add, Int.reduceToNat, ones, one, add_mk, Decidable.not_not, cond_true, cond_false, true_implies, false_implies, implies_true, Bool.not_true, Bool.not_false]
  refine ⟨(shown_spec w).mono ?_⟩
  rintro e w1 ⟨rfl, x1⟩
  refine ⟨_, rfl, ⟨(cut_spec (hc.ext x1) hcap).mono ?_⟩⟩
  rintro e w2 ⟨s, rfl, hs, hscap, hsa, rfl⟩
  obtain ⟨c, rfl⟩ : ∃ c, c = c0.take 40 := ⟨_, rfl⟩
  have hm : (c0.take 40).length ≤ 40 := by rw [List.length_take]; omega
  generalize c0.take 40 = c at *
  have hsn := hs.lenc
  refine ⟨s, rfl, ⟨(new_spec hs (by omega)).mono ?_⟩⟩
  rintro e w3 ⟨g, rfl, G3, x3⟩
  refine ⟨_, rfl, fun _ => ⟨fun h => (by cases h), fun _ => ⟨(reached_spec G3 (by omega)).mono ?_⟩⟩, fun h => (by cases h)⟩
  rintro e w4 ⟨s1, rfl, o4, x4⟩
  have hs1n : c.length = s1.n := by simpa using o4.len1
  obtain ⟨_, _, _, _, _, ov, od, HO⟩ := G3.open_
  have N := HO.N
  clear HO
  have x04 := (x1.trans x3).trans x4
  refine ⟨s1, rfl, fun hne => absurd (by omega) hne, fun _ => ?_⟩
  have rd : ∀ {w' : World}, Ext w4 w' → ∀ {k : Nat}, k < c.length → ∃ p, s1.a = some p ∧ w'.cell? (p.add k) = some (.bool (rB c k)) := fun {w'} u {k} hk => by
    obtain ⟨p, hp, hcc⟩ := (o4.ext u).rd.2 (by omega)
    exact ⟨p, hp, hcc k _ (by unfold bbv; rw [List.getElem?_map, rcL_get hk]; rfl)⟩
  have GA : ∀ {w' : World}, Ext w4 w' → GF w' w2.heap.size g c := fun u => (G3.ext x4).ext u
  have eqB : ∀ {b b' : Bool}, (b = true ↔ b' = true) → b = b' := fun {b b'} h => by cases b <;> cases b' <;> simp_all
  refine ⟨fun n w' => ∃ k : Nat, n = (k : Nat) ∧ k ≤ c.length ∧ Ext w4 w', fun n _ => (c.length - n).toNat, ⟨0, rfl, Nat.zero_le _, Ext.refl _⟩, ?_⟩
  rintro _ n w5 ⟨a, rfl, ha, x5⟩
  have ea : IntKind.i64.wrap ((a : Int) + 1) = ((a + 1 : Nat) : Int) := by rw [wrap_i64 (by omega) (by omega)]; omega
  rw [ea]
  refine ⟨fun hlt w6 q6 => ?_, fun hge => x04.trans x5⟩
  have x6 := x5.trans q6.ext
  have hac : a < c.length := by omega
  obtain ⟨p, hp, hcp⟩ := rd x6 hac
  refine ⟨fun _ => False, by omega, by omega, p, hp, _, fun w' u => by rw [Int.toNat_natCast]; exact (rd (x6.trans u) hac).elim fun p' h => by rw [hp] at h; injection h.1 with h1; subst h1; exact h.2, ⟨(over_spec (GA x6) (by omega) (a : Nat) (a : Nat)).mono ?_⟩⟩
  rintro e w7 ⟨rfl, rfl⟩
  have haa : overB c (a : Nat) (a : Nat) = rB c a := eqB (by rw [overB_nat hac hac, rB_iff]; exact over_self)
  have ha0 : overB c (a : Nat) 0 = rB c a := eqB (by rw [show (0 : Int) = ((0 : Nat) : Int) from rfl, overB_nat hac (by omega), rB_iff]; exact over_zero)
  rw [haa]
  refine ⟨_, rfl, Ext.refl _, fun _ => ⟨by omega, by omega, p, hp, _, fun w' u => by rw [Int.toNat_natCast]; exact (rd (x6.trans u) hac).elim fun p' h => by rw [hp] at h; injection h.1 with h1; subst h1; exact h.2, ⟨(over_spec (GA x6) (by omega) (a : Nat) 0).mono ?_⟩⟩, fun hne => absurd rfl hne⟩
  rintro e w8 ⟨rfl, rfl⟩
  rw [ha0]
  refine ⟨_, rfl, Ext.refl _, fun hne => absurd rfl hne, fun _ => ?_⟩
  refine ⟨fun n w' => ∃ k : Nat, n = (k : Nat) ∧ k ≤ c.length ∧ Ext w4 w', fun n _ => (c.length - n).toNat, ⟨0, rfl, Nat.zero_le _, x6⟩, ?_⟩
  rintro _ n w9 ⟨b, rfl, hb, x9⟩
  have eb : IntKind.i64.wrap ((b : Int) + 1) = ((b + 1 : Nat) : Int) := by rw [wrap_i64 (by omega) (by omega)]; omega
  rw [eb]
  refine ⟨fun hlt9 => ?_, fun hge9 => ⟨⟨a + 1, rfl, by omega, x9⟩, by dsimp only; omega⟩⟩
  have hbc : b < c.length := by omega
  refine ⟨(over_spec (GA x9) (by omega) (a : Nat) (b : Nat)).mono ?_⟩
  rintro e w10 ⟨rfl, rfl⟩
  refine ⟨_, rfl, fun _ => ⟨⟨b + 1, rfl, by omega, x9⟩, by dsimp only; omega⟩, fun hov => ?_⟩
  have OV := (overB_nat hac hbc).1 hov
  obtain ⟨pa, hpa, hca⟩ := rd x9 hac
  obtain ⟨pb, hpb, hcb⟩ := rd x9 hbc
  refine ⟨fun w' => w' = w10, ⟨by omega, by omega, pa, hpa, _, by rw [Int.toNat_natCast]; exact hca, fun _ => ⟨by omega, by omega, pb, hpb, _, by rw [Int.toNat_natCast]; exact hcb, fun _ => ⟨fun hne => ⟨(over_spec (GA x9) (by omega) (b : Nat) (a : Nat)).mono ?_⟩, fun _ => rfl⟩, fun h => ?_⟩, fun h => ?_⟩, ?_⟩
  · rintro e w11 ⟨rfl, rfl⟩
    refine ⟨_, rfl, fun hba => ?_, fun _ => rfl⟩
    exact absurd (by rw [over_anti N OV ((overB_nat hbc hac).1 hba)]) hne
  · rw [rB_iff.2 OV.2.1] at h; cases h
  · rw [rB_iff.2 OV.1] at h; cases h
  rintro _ w11 rfl
  refine ⟨(from_spec (GA x9) (by omega) (a : Nat)).mono ?_⟩
  rintro e w12 ⟨sf, rfl, of_, x12⟩
  have hfT : fromT c (a : Nat) = castL (frT c a) := by unfold fromT; rw [if_pos ⟨by omega, by omega⟩, Int.toNat_natCast]
  rw [hfT] at of_
  have hfn := of_.rd.leni
  have hfcl : (castL (frT c a)).length = (frT c a).length := by unfold castL; rw [List.length_map]
  have hfl : (frT c a).length ≤ c.length := by
    have := List.length_filter_le (fun i => decide (a ∈ nxT c i)) (List.range c.length)
    rw [List.length_range] at this; exact this
  refine ⟨sf, rfl, ?_⟩
  refine ⟨fun n w' => ∃ k : Nat, n = (k : Nat) ∧ k ≤ (frT c a).length ∧ Ext w12 w', fun n _ => ((frT c a).length - n).toNat, ⟨0, rfl, Nat.zero_le _, Ext.refl _⟩, ?_⟩
  rintro _ n w13 ⟨k, rfl, hk, x13⟩
  have ek : IntKind.i64.wrap ((k : Int) + 1) = ((k + 1 : Nat) : Int) := by rw [wrap_i64 (by omega) (by omega)]; omega
  rw [ek]
  have x413 := (x9.trans x12).trans x13
  refine ⟨fun hlt13 => ⟨fun hne => ?_, fun _ => ⟨⟨k + 1, rfl, by omega, x13⟩, by dsimp only; omega⟩⟩, fun hge13 => ?_⟩
  · obtain ⟨f, hf⟩ : ∃ f, (frT c a)[k]? = some f := ⟨_, List.getElem?_eq_getElem (by omega)⟩
    have hfm : f < c.length ∧ a ∈ nxT c f := by have := List.mem_of_getElem? hf; unfold frT at this; simpa using this
    obtain ⟨pf, hpf, hcf⟩ := (of_.ext x13).rd.2 (by omega)
    have hfc := hcf k (.int .i64 (f : Nat)) (by unfold iv castL; rw [List.getElem?_map, List.getElem?_map, hf]; rfl)
    obtain ⟨pr, hpr, hcr⟩ := rd x413 hfm.1
    refine ⟨by omega, by omega, pf, hpf, _, by rw [Int.toNat_natCast]; exact hfc, by omega, by omega, pr, hpr, _, by rw [Int.toNat_natCast]; exact hcr, fun hrf => ⟨by omega, by omega, pf, hpf, _, by rw [Int.toNat_natCast]; exact hfc, ⟨(over_spec (GA x413) (by omega) (f : Nat) (b : Nat)).mono ?_⟩⟩, fun _ => ⟨⟨k + 1, rfl, by omega, x13⟩, by dsimp only; omega⟩⟩
    rintro e w14 ⟨rfl, rfl⟩
    refine ⟨_, rfl, fun hfa => ?_, fun _ => ⟨⟨k + 1, rfl, by omega, x13⟩, by dsimp only; omega⟩⟩
    have := (overB_nat hfm.1 hbc).2 (over_from OV (fun e => hne (by rw [e])) hfm.2 (rB_iff.1 hrf))
    rw [this] at hfa; cases hfa
  · refine ⟨fun n w' => ∃ k : Nat, n = (k : Nat) ∧ k ≤ c.length ∧ Ext w4 w', fun n _ => (c.length - n).toNat, ⟨0, rfl, Nat.zero_le _, x413⟩, ?_⟩
    rintro _ n w14 ⟨d, rfl, hd, x14⟩
    have ed : IntKind.i64.wrap ((d : Int) + 1) = ((d + 1 : Nat) : Int) := by rw [wrap_i64 (by omega) (by omega)]; omega
    rw [ed]
    refine ⟨fun hlt14 => ⟨(over_spec (GA x14) (by omega) (b : Nat) (d : Nat)).mono ?_⟩, fun hge14 => ⟨⟨b + 1, rfl, by omega, x14⟩, by dsimp only; omega⟩⟩
    rintro e w15 ⟨rfl, rfl⟩
    refine ⟨_, rfl, fun hbd => ⟨(over_spec (GA x14) (by omega) (a : Nat) (d : Nat)).mono ?_⟩, fun _ => ⟨⟨d + 1, rfl, by omega, x14⟩, by dsimp only; omega⟩⟩
    rintro e w16 ⟨rfl, rfl⟩
    refine ⟨_, rfl, fun had => ?_, fun _ => ⟨⟨d + 1, rfl, by omega, x14⟩, by dsimp only; omega⟩⟩
    have hdc : d < c.length := by omega
    have := (overB_nat hac hdc).2 (over_trans N OV ((overB_nat hbc hdc).1 hbd))
    rw [this] at had; cases had
end Go.Proofs.Ytilaeefmfiihlaa.V
