/-
  Law ArenaSets: the walk.
-/
import Derived.Test.YtcmmdaginkhomaaLa5
namespace Go.Proofs.Ytcmmdaginkhomaa.V
open Go Go.RowKit
set_option linter.unusedVariables false
set_option linter.unusedSimpArgs false
set_option maxRecDepth 100000

theorem ref_of {w : World} {B : Nat} {s : Sl} {os : List Lo} (h : Own w B 22 1 s (uv (refsOf os))) {k : Nat} {o : Lo} (ho : os[k]? = some o) : ∃ q, s.a = some q ∧ w.cell? (q.add k) = some (.int .u64 (posL os k + 1 : Nat)) := by
  have hk := (List.getElem?_eq_some_iff.1 ho).1
  have hn := h.rd.lenu
  rw [refsOf_length] at hn
  obtain ⟨q, x, hq, hx, hc⟩ := h.rd.word k (by omega)
  rw [refsOf_at ho] at hx
  injection hx with hx
  rw [Nat.mul_one, ← hx] at hc
  exact ⟨q, hq, hc⟩
theorem head_of {w : World} {B : Nat} {s : Sl} {os : List Lo} (h : Own w B 24 4 s (hdsV (os.map (·.1)))) {k : Nat} {o : Lo} (ho : os[k]? = some o) : ∃ q, s.a = some q ∧ w.cell? ((q.add (k * 4)).add 2) = some (.int .i64 o.1.l) := by
  obtain ⟨q, hq, _, _, h2, _⟩ := h.rd.hds (j := k) (o := o.1) (by rw [List.getElem?_map, ho]; rfl)
  exact ⟨q, hq, h2⟩
theorem wordO_in {A : Ar} {i : Nat} (hi : i < A.ws.length) : wordO A (i : Int) = (A.ws.getD i 0, true) := by
  unfold wordO
  rw [if_pos (by omega), Int.toNat_natCast]
theorem wordO_put {A : Ar} {p x : Nat} (hp : p < A.ws.length) (i : Nat) (hi : i < A.ws.length) : wordO (A.put p x) (i : Int) = (if i = p then x else (wordO A (i : Int)).1, true) := by
  have hl : (A.put p x).ws.length = A.ws.length := List.length_set
  rw [wordO_in (A := A.put p x) (by omega), wordO_in hi]
  show ((A.ws.set p x).getD i 0, true) = (if i = p then x else A.ws.getD i 0, true)
  rw [List.getD_eq_getElem?_getD, List.getElem?_set, List.getD_eq_getElem?_getD]
  by_cases h : i = p
  · subst h; simp [hi]
  · have h' : ¬ p = i := fun e => h e.symm
    simp [h, h']
theorem arenasets_walk (w : World) (v0 v1 v2 v3 v4 : Value) (x0 : Int) (x1 : (Par.one (.sl 64 ThR)).T) (x2 x3 x4 : Int) (h0 : (Par.one (.int .i64)).Is w v0 x0) (h1 : (Par.one (.sl 64 ThR)).Is w v1 x1)
    (h2 : (Par.one (.int .i64)).Is w v2 x2) (h3 : (Par.one (.int .i64)).Is w v3 x3) (h4 : (Par.one (.int .u64)).Is w v4 x4) :
    Calls Try.prog 6 #[v0, v1, v2, v3, v4] w fun e w' => e = .returned (.bool true) ∧ Ext w w' := by
  obtain ⟨rfl, r0⟩ := h0
  obtain ⟨rfl, hc, hm, ts, hts⟩ := ths_is h1
  obtain ⟨rfl, r2⟩ := h2
  obtain ⟨rfl, r3⟩ := h3
  obtain ⟨rfl, r4⟩ := h4
  have r0 := wf_i64 r0; have r2 := wf_i64 r2; have r3 := wf_i64 r3; have r4 := wf_u64 r4
  obtain ⟨things, ls⟩ := x1
  dsimp only at *
  obtain ⟨y, rfl⟩ : ∃ m : Nat, x4 = m := ⟨x4.toNat, by omega⟩
  refine vc_6 x0 things x2 x3 (y : Int) _ _ ?_
  simp only [eq_self, false_or, or_false, true_and, and_true, decide_eq_true_eq, decide_eq_false_iff_not, gd_st, gd_sf, exists_eq_left', exists_eq_left, Option.some.injEq, Sl.eta, Nat.reduceLeDiff, Int.reduceLE, Int.reduceLT, Int.reduceEq, Int.reduceNe, Nat.reduceMul, Nat.reduceAdd, Nat.reduceSub, Int.toNat_natCast, beq_iff_eq, bne_iff_ne, beq_eq_false_iff_ne, bne_eq_false_iff_eq, pick_and, pick_or, Bool.and_eq_true, Bool.or_eq_true, Bool.and_eq_false_iff, Bool.or_eq_false_iff, ne_eq, not_false_eq_true, Bool.not_eq_true', Bool.not_eq_false', reduceCtorEq, Nat.le_refl, Nat.zero_mul, Nat.mul_one, Nat.zero_add, Int.reduceToNat, ones, one, add_mk, Decidable.not_not, cond_true, cond_false, true_implies, false_implies, implies_true, Bool.not_true, Bool.not_false]
  refine ⟨(shown_spec w).mono ?_⟩
  rintro e w2 ⟨rfl, x2'⟩
  refine ⟨_, rfl, ⟨(pick_spec x0 2000 w2 r0.1 r0.2 (by decide)).mono ?_⟩⟩
  rintro e w3 ⟨rfl, rfl⟩
  have hpk := pk_lt (c := x0) (n := 2000) (by decide)
  refine ⟨_, rfl, ⟨(new_spec (n := pk x0 2000) (by omega) _).mono ?_⟩⟩
  rintro e w4 ⟨x4', ⟨hno, _⟩ | ⟨N, b1, g1, hk, hN, rfl, hb1, hg1, a4⟩⟩
  · omega
  rw [laidA_new] at a4
  refine ⟨_, _, rfl, ⟨(pick_spec x0 2000 w4 r0.1 r0.2 (by decide)).mono ?_⟩⟩
  rintro e w5 ⟨rfl, rfl⟩
  refine ⟨_, rfl, ⟨(new_spec (n := pk x0 2000) (by omega) _).mono ?_⟩⟩
  rintro e w6 ⟨x6, ⟨hno, _⟩ | ⟨N', b2, g2, hk', hN', rfl, hb2, hg2, b6⟩⟩
  · omega
  obtain rfl : N' = N := by omega
  rw [laidA_new] at b6
  have hb1l := a4.ws.lt; have hg1l := a4.hd.lt
  have a6 := a4.ext x6
  have x06 := (x2'.trans x4').trans x6
  have z02 := x2'.size; have z24 := x4'.size; have z46 := x6.size
  refine ⟨_, _, rfl, fun _ => ⟨fun _ => ⟨fun _ => ⟨fun _ => ⟨fun h => absurd rfl h, fun _ => ⟨(laid_spec hN a6 hts x06 (by omega) hm).mono ?_⟩⟩, fun h => absurd rfl h⟩, fun h => (by cases h)⟩, fun h => (by cases h)⟩, fun h => (by cases h)⟩
  rintro e w7 ⟨s0, s1, s2, cl, rfl, ld⟩
  have x07 : Ext w w7 := x06.fresh ld.u (by rintro i (rfl | rfl) <;> omega)
  have b7 := b6.upd ld.u (by omega) (by omega)
  refine ⟨s0, s1, s2, _, rfl, ⟨(laid_spec hN b7 hts x07 (by omega) hm).mono ?_⟩⟩
  rintro e w8 ⟨t0, t1, t2, cl', rfl, ld'⟩
  have hb2l := b6.ws.lt; have hg2l := b6.hd.lt
  have x08 : Ext w w8 := x07.fresh ld'.u (by rintro i (rfl | rfl) <;> omega)
  have a8 := ld.a.upd ld'.u (by omega) (by omega)
  have r8 := ld.r.upd ld'.u (by rintro q hq; have := (ld.r.base q hq).1; omega)
  have h8 := ld.h.upd ld'.u (by rintro q hq; have := (ld.h.base q hq).1; omega)
  have hinv := laidL_inv hN ts
  have ns0 := ld.ns.1; have ns1 := ld.ns.2.1
  have b8 := ld'.a
  generalize laidL _ ts = os at a8 r8 h8 b8 hinv ns0 ns1
  have hfit := hinv.fit
  have hol := layT_len hinv
  refine ⟨t0, t1, t2, _, rfl, fun _ => ⟨fun _ => ⟨fun _ => ⟨fun _ => ⟨rfl, x08⟩, fun h => (by cases h)⟩, fun hne0 => ⟨(pick_spec x2 (s0.n : Int) w8 r2.1 r2.2 (by omega)).mono ?_⟩⟩, fun h => (by cases h)⟩, fun h => (by cases h)⟩
  rintro e w9 ⟨rfl, rfl⟩
  have hpk2 := pk_lt (c := x2) (n := (s0.n : Int)) (by omega)
  obtain ⟨k, hkk⟩ : ∃ k : Nat, pk x2 (s0.n : Int) = k := ⟨(pk x2 (s0.n : Int)).toNat, by omega⟩
  rw [hkk] at hpk2 ⊢
  obtain ⟨o, ho⟩ : ∃ o, os[k]? = some o := ⟨_, List.getElem?_eq_getElem (by omega)⟩
  obtain ⟨hok, hpl, hst, hhd⟩ := hinv.at_ hN ho
  have holen := hok.len
  have homl := hok.may.le
  obtain ⟨q, hq, hcq⟩ := ref_of r8 ho
  refine ⟨_, rfl, by omega, by omega, q, hq, _, by rw [Int.toNat_natCast]; exact hcq, ⟨(SetCell_spec a8 (r := posL os k + 1) (by omega) r3.2 (x := y) (by omega)).mono ?_⟩⟩
  rintro e w10 ⟨rfl, a10, u10⟩
  have r10 := r8.upd u10 (by rintro q hq; have := (r8.base q hq).1; omega)
  have h10 := h8.upd u10 (by rintro q hq; have := (h8.base q hq).1; omega)
  have b10 := b8.upd u10 (by omega) (by omega)
  have x10 : Ext w w10 := x08.fresh u10 (by rintro i rfl; omega)
  have hwl : (laidA N' os).ws.length = 2 * N' := b8.ok.len
  obtain ⟨q1, hq1, hh1⟩ := head_of h10 ho
  have hplace := (hinv.cell hN ho x3).1
  have hset : setO (laidA N' os) (posL os k + 1) x3 y = if 0 ≤ x3 ∧ x3 < o.2.length then ((laidA N' os).put (posL os k + 1 + x3.toNat) y, 0) else (laidA N' os, 20) := by
    unfold setO; rw [hplace]; split <;> simp_all
  rw [hset] at a10 ⊢
  have main : ∀ (b : Bool) (J : Prop), b = decide (0 ≤ x3 ∧ x3 < (o.2.length : Int)) → J → ((((((if 0 ≤ x3 ∧ x3 < (o.2.length : Int) then ((laidA N' os).put (posL os k + 1 + x3.toNat) y, (0 : Int)) else (laidA N' os, 20)) : Ar × Int).2 == 0) = b →
      (¬((if 0 ≤ x3 ∧ x3 < (o.2.length : Int) then ((laidA N' os).put (posL os k + 1 + x3.toNat) y, (0 : Int)) else (laidA N' os, 20)) : Ar × Int).2 = 0 → (¬((if 0 ≤ x3 ∧ x3 < (o.2.length : Int) then ((laidA N' os).put (posL os k + 1 + x3.toNat) y, (0 : Int)) else (laidA N' os, 20)) : Ar × Int).2 = 20 → False) ∧ (((if 0 ≤ x3 ∧ x3 < (o.2.length : Int) then ((laidA N' os).put (posL os k + 1 + x3.toNat) y, (0 : Int)) else (laidA N' os, 20)) : Ar × Int).2 = 20 → J)) ∧ J)) ∧ (¬(((if 0 ≤ x3 ∧ x3 < (o.2.length : Int) then ((laidA N' os).put (posL os k + 1 + x3.toNat) y, (0 : Int)) else (laidA N' os, 20)) : Ar × Int).2 == 0) = b → False)) := by
    rintro b J rfl hJ
    by_cases hin : 0 ≤ x3 ∧ x3 < (o.2.length : Int)
    · rw [if_pos hin, decide_eq_true hin]
      exact ⟨fun _ => ⟨fun h => absurd rfl h, hJ⟩, fun h => absurd rfl h⟩
    · rw [if_neg hin, decide_eq_false hin]
      exact ⟨fun _ => ⟨fun _ => ⟨fun h => absurd rfl h, fun _ => hJ⟩, hJ⟩, fun h => absurd rfl h⟩
  refine ⟨_, rfl, fun b v => v = w10 ∧ b = decide (0 ≤ x3 ∧ x3 < (o.2.length : Int)), ⟨fun h0 => ⟨by omega, by omega, q1, hq1, _, by rw [Int.toNat_natCast]; exact hh1, rfl, ?_⟩, fun h0 => ⟨rfl, ?_⟩⟩, ?_⟩
  · rw [decide_eq_decide]; omega
  · exact (decide_eq_false (by omega)).symm
  rintro _ b v ⟨rfl, rfl⟩
  refine ⟨fun v' => v' = v, ⟨fun he => ⟨fun hn => ⟨fun h20 => (((main _ True rfl trivial).1 he).1 hn).1 h20 |>.elim, fun _ => rfl⟩, fun _ => rfl⟩, fun hne => ((main _ True rfl trivial).2 hne).elim⟩, ?_⟩
  rintro _ v' rfl
  have aw : ∀ i : Nat, i < 2 * N' → wordO ((if 0 ≤ x3 ∧ x3 < (o.2.length : Int) then ((laidA N' os).put (posL os k + 1 + x3.toNat) y, (0 : Int)) else (laidA N' os, 20)) : Ar × Int).1 (i : Int) = (if (0 ≤ x3 ∧ x3 < (o.2.length : Int)) ∧ i = posL os k + 1 + x3.toNat then y else (wordO (laidA N' os) (i : Int)).1, true) := by
    intro i hi
    by_cases hin : 0 ≤ x3 ∧ x3 < (o.2.length : Int)
    · rw [if_pos hin]
      show wordO ((laidA N' os).put (posL os k + 1 + x3.toNat) y) (i : Int) = _
      rw [wordO_put (by omega) i (by omega)]
      by_cases he : i = posL os k + 1 + x3.toNat
      · rw [if_pos he, if_pos ⟨hin, he⟩]
      · rw [if_neg he, if_neg fun h => he h.2]
    · rw [if_neg hin, if_neg fun h => hin h.1]
      show wordO (laidA N' os) (i : Int) = _
      rw [wordO_in (by omega)]
  refine ⟨fun n v'' => ∃ i : Nat, n = i ∧ i ≤ 2 * N' ∧ Ext v' v'', fun n _ => (2 * N' - n).toNat, ⟨0, rfl, by omega, Ext.refl _⟩, ?_⟩
  rintro _ n v1 ⟨i, rfl, hi, xv⟩
  have av := a10.ext xv
  have bv' := b10.ext xv
  have hnn : ((if 0 ≤ x3 ∧ x3 < (o.2.length : Int) then ((laidA N' os).put (posL os k + 1 + x3.toNat) y, (0 : Int)) else (laidA N' os, 20)) : Ar × Int).1.n = N' := by split <;> rfl
  have huu : ((if 0 ≤ x3 ∧ x3 < (o.2.length : Int) then ((laidA N' os).put (posL os k + 1 + x3.toNat) y, (0 : Int)) else (laidA N' os, 20)) : Ar × Int).1.use = (laidA N' os).use := by split <;> rfl
  refine ⟨(words_spec av).mono ?_⟩
  rintro e v2 ⟨rfl, rfl⟩
  rw [hnn]
  have e2 : IntKind.i64.wrap (2 * (N' : Int)) = ((2 * N' : Nat) : Int) := by rw [wrap_i64 (by omega) (by omega)]; omega
  have ei : IntKind.i64.wrap ((i : Int) + 1) = ((i + 1 : Nat) : Int) := by rw [wrap_i64 (by omega) (by omega)]; omega
  refine ⟨_, rfl, ?_⟩
  rw [e2, ei]
  refine ⟨fun hlt => ⟨(word_spec av _).mono ?_⟩, fun hge => ⟨(check_spec bv').mono ?_⟩⟩
  · rintro e v3 ⟨rfl, rfl⟩
    rw [aw i (by omega)]
    refine ⟨_, _, rfl, ⟨(word_spec bv' _).mono ?_⟩⟩
    rintro e v4 ⟨rfl, rfl⟩
    obtain ⟨q', hq', hc'⟩ := ref_of (r10.ext xv) ho
    have e3 : IntKind.i64.wrap ((posL os k + 1 : Nat) : Int) = ((posL os k + 1 : Nat) : Int) := wrap_i64 (by omega) (by omega)
    refine ⟨_, _, rfl, fun b v' => v' = v4 ∧ b = decide ((0 ≤ x3 ∧ x3 < (o.2.length : Int)) ∧ i = posL os k + 1 + x3.toNat), ⟨fun hd => ⟨by omega, by omega, q', hq', _, by rw [Int.toNat_natCast]; exact hc', rfl, ?_⟩, fun hd => ⟨rfl, ?_⟩⟩, ?_⟩
    · have hd := of_decide_eq_true hd
      rw [e3, wrap_i64 (by omega) (by omega)]
      rw [Bool.eq_iff_iff, beq_iff_eq, decide_eq_true_eq]
      omega
    · have hd := of_decide_eq_false hd
      exact (decide_eq_false fun h => hd h.1).symm
    rintro _ b v5 ⟨rfl, rfl⟩
    have go : (∃ i' : Nat, ((i + 1 : Nat) : Int) = i' ∧ i' ≤ 2 * N' ∧ Ext v' v5) := ⟨i + 1, rfl, by omega, xv⟩
    by_cases hh : (0 ≤ x3 ∧ x3 < (o.2.length : Int)) ∧ i = posL os k + 1 + x3.toNat
    · rw [decide_eq_true hh, if_pos hh]
      exact ⟨fun _ => ⟨fun _ => ⟨fun h => (by cases h), fun _ => ⟨go, by dsimp only; omega⟩⟩, fun h => absurd rfl h⟩, fun h => (by cases h)⟩
    · rw [decide_eq_false hh, if_neg hh]
      exact ⟨fun h => (by cases h), fun _ => ⟨fun _ => ⟨fun h => absurd rfl h, fun _ => ⟨go, by dsimp only; omega⟩⟩, fun h => (by cases h)⟩⟩
  · rintro e v3 ⟨rfl, x3'⟩
    rw [checkT_laid hN hfit hinv.ok hinv.refs]
    refine ⟨_, _, rfl, fun _ => ⟨fun _ => ⟨(used_spec (av.ext x3')).mono ?_⟩, fun h => absurd rfl h⟩, fun h => absurd rfl h⟩
    rintro e v4 ⟨rfl, q4⟩
    refine ⟨_, rfl, ⟨(used_spec ((bv'.ext x3').ext q4.ext)).mono ?_⟩⟩
    rintro e v5 ⟨rfl, q5⟩
    refine ⟨_, rfl, rb ?_, ((x10.trans xv).trans x3').trans (q4.ext.trans q5.ext)⟩
    rw [huu]
    simp
end Go.Proofs.Ytcmmdaginkhomaa.V
