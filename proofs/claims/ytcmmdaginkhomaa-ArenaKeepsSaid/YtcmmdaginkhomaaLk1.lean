/-
  Law ArenaKeeps: the walk.
-/
import Derived.Test.YtcmmdaginkhomaaLa5
namespace Go.Proofs.Ytcmmdaginkhomaa.V
open Go Go.RowKit
set_option linter.unusedVariables false
set_option linter.unusedSimpArgs false
set_option maxRecDepth 100000

theorem Path.nextL {A : Ar} {k : Nat} {m : List Ob} {hd : Hd} {os : List Lo} {e : Nat} (hm : Path A A.use.f m k) (hs : stT A A.use (k + 1) = some hd) (hl : Path A A.use.f (objsL 0 os) e) (he : stT A A.use (e + 1) = none) :
    ∃ o, os[m.length]? = some o ∧ k = posL os m.length ∧ hd = o.1 := by
  obtain ⟨m', hm', _⟩ := (hm.snoc hs).rest hl he
  have h1 : (objsL 0 os)[m.length]? = some (k + 1, hd) := by
    rw [hm', List.append_assoc, List.getElem?_append_right (Nat.le_refl _), Nat.sub_self]; rfl
  have hlt := (List.getElem?_eq_some_iff.1 h1).1
  rw [objsL_length] at hlt
  have ho : os[m.length]? = some os[m.length] := List.getElem?_eq_getElem hlt
  rw [objsL_at ho] at h1
  injection h1 with h1
  obtain ⟨h1, h2⟩ := Prod.mk.inj h1
  exact ⟨_, ho, by omega, h2.symm⟩
theorem arenakeeps_walk (w : World) (v0 v1 : Value) (x0 : Int) (x1 : (Par.one (.sl 64 ThR)).T) (h0 : (Par.one (.int .i64)).Is w v0 x0) (h1 : (Par.one (.sl 64 ThR)).Is w v1 x1) :
    Calls Try.prog 4 #[v0, v1] w fun e w' => e = .returned (.bool true) ∧ Ext w w' := by
  obtain ⟨rfl, r0⟩ := h0
  obtain ⟨rfl, hc, hm, ts, hts⟩ := ths_is h1
  have r0 := wf_i64 r0
  obtain ⟨things, ls⟩ := x1
  dsimp only at *
  refine vc_4 x0 things _ _ ?_
  simp only [eq_self, false_or, or_false, true_and, and_true, decide_eq_true_eq, decide_eq_false_iff_not, gd_st, gd_sf, exists_eq_left', exists_eq_left, Option.some.injEq, Sl.eta, Nat.reduceLeDiff, Int.reduceLE, Int.reduceLT, Int.reduceEq, Int.reduceNe, Nat.reduceMul, Nat.reduceAdd, Nat.reduceSub, Int.toNat_natCast, beq_iff_eq, bne_iff_ne, beq_eq_false_iff_ne, bne_eq_false_iff_eq, pick_and, pick_or, Bool.and_eq_true, Bool.or_eq_true, Bool.and_eq_false_iff, Bool.or_eq_false_iff, ne_eq, not_false_eq_true, Bool.not_eq_true', Bool.not_eq_false', reduceCtorEq, Nat.le_refl, Nat.zero_mul, Nat.mul_one, Nat.zero_add, Int.reduceToNat, ones, one, add_mk, Decidable.not_not, cond_true, cond_false, true_implies, false_implies, implies_true, Bool.not_true, Bool.not_false]
  intro w1 n1
  have kf1 := Blk.new n1
  refine ⟨(shown_spec w1).mono ?_⟩
  rintro e w2 ⟨rfl, x2⟩
  refine ⟨_, rfl, ⟨(pick_spec x0 2000 w2 r0.1 r0.2 (by decide)).mono ?_⟩⟩
  rintro e w3 ⟨rfl, rfl⟩
  have hpk := pk_lt (c := x0) (n := 2000) (by decide)
  refine ⟨_, rfl, ⟨(new_spec (n := pk x0 2000) (by omega) _).mono ?_⟩⟩
  rintro e w4 ⟨x4, ⟨hno, _⟩ | ⟨N, b, g, hk, hN, rfl, hb, hg, a4⟩⟩
  · omega
  rw [laidA_new] at a4
  have x04 := (n1.ext.trans x2).trans x4
  have z02 := (n1.ext.trans x2).size
  refine ⟨_, _, rfl, fun _ => ⟨fun _ => ⟨fun h => absurd rfl h, fun _ => ⟨(laid_spec hN a4 hts x04 (by omega) hm).mono ?_⟩⟩, fun h => (by cases h)⟩, fun h => (by cases h)⟩
  rintro e w5 ⟨s0, s1, s2, cl, rfl, ld⟩
  have hinv := laidL_inv hN ts
  generalize laidL N ts = os at ld hinv
  have hfit := hinv.fit
  have hol := layT_len hinv
  obtain ⟨ns0, ns1, ns2⟩ := ld.ns
  have x05 : Ext w w5 := x04.fresh ld.u (by rintro i (rfl | rfl) <;> omega)
  have kf5 : Blk w5 w.heap.size 4 [.bool false] := (kf1.ext (x2.trans x4)).upd ld.u (by have := kf1.lt; have := n1.size; have := x2.size; omega)
  refine ⟨s0, s1, s2, _, rfl, fun w6 n6 w7 n7 => ⟨((Blk.new n6).ext n7.ext).canSet 0 (by simp), fun w8 s8 => ?_⟩⟩
  have z6 := n6.size; have z7 := n7.size; have z8 := s8.size
  have cr8 := s8.blk1 ((Blk.new n6).ext n7.ext)
  have u8 : Upd (fun i => i = w5.heap.size) w7 w8 := s8.upd
  have x58 : Ext w5 w8 := (n6.ext.trans n7.ext).fresh u8 (by rintro i rfl; omega)
  have ch8 := (Blk.new n7).upd u8 (by omega)
  refine ⟨ch8.canSet 0 (by simp), fun w9 s9 => ⟨fun h => (by cases h), fun _ => ?_⟩⟩
  have z9 := s9.size
  have ch9 := s9.blk1 ch8
  have u9 : Upd (fun i => i = w6.heap.size) w8 w9 := s9.upd
  have cr9 : Blk w9 w5.heap.size 37 [.slice s0.a s0.n s0.c] := cr8.upd u9 (by omega)
  have x59 : Ext w5 w9 := x58.fresh u9 (by rintro i rfl; omega)
  have kf9 := kf5.ext x59
  have ld9 := ld.ext x59
  have x09 := x05.trans x59
  have hkf := kf5.lt
  refine ⟨fun n m v => ∃ i : Nat, n = ((posL os i : Nat) : Int) ∧ m = i ∧ i ≤ os.length ∧ Ext w9 v, fun _ m _ => (os.length - m).toNat, ⟨0, rfl, rfl, Nat.zero_le _, Ext.refl _⟩, ?_⟩
  rintro _ n m y ⟨i, rfl, rfl, hi, xy⟩
  refine ⟨s0, (cr9.ext xy).cell 0, fun hlt => ?_, fun hge => ?_⟩
  · obtain ⟨o, ho⟩ : ∃ o, os[i]? = some o := ⟨_, List.getElem?_eq_getElem (by omega)⟩
    obtain ⟨hok, hpl, _, hhd⟩ := hinv.at_ hN ho
    have holen := hok.len
    have homl := hok.may.le
    have ldy := ld9.ext xy
    obtain ⟨q, hq, hcq⟩ := ldy.ref ho
    refine ⟨s0, (cr9.ext xy).cell 0, by omega, hlt, q, hq, _, by rw [Int.toNat_natCast]; exact hcq, ⟨(header_spec ldy.a (r := posL os i + 1) (by omega)).mono ?_⟩⟩
    rintro e y1 ⟨rfl, xy1⟩
    rw [hhd]
    refine ⟨_, _, _, _, _, rfl, fun y2 m2 => ⟨rfl, HB.can m2, fun y3 m3 => ⟨fun _ => ?_, fun h => (by cases h)⟩⟩⟩
    obtain ⟨hb3, xy3⟩ := HB.made (h := o.1) m2 m3
    have x93 := (xy.trans xy1).trans xy3
    have ld3 := ld9.ext x93
    obtain ⟨q1, hq1, hh⟩ := ld3.head ho
    refine ⟨_, _, _, _, rfl, ⟨hb3.cell 0, hb3.cell 1, hb3.cell 2, hb3.cell 3⟩, s1, (ch9.ext x93).cell 0, by omega, by omega, q1, hq1, _, _, _, _, rfl, by rw [Int.toNat_natCast]; exact hh, fun _ => ?_, fun hh => ?_⟩
    rotate_left
    · rcases hh with ((hh | hh) | hh) | hh <;> exact absurd rfl hh
    obtain ⟨q3, hq3, hcq3⟩ := ld3.ref ho
    refine ⟨s0, (cr9.ext x93).cell 0, by omega, hlt, q3, hq3, _, by rw [Int.toNat_natCast]; exact hcq3, fun y4 q4 => ?_⟩
    have er : IntKind.u64.wrap (IntKind.u64.wrap ((posL os i : Nat) : Int) + 1) = ((posL os i + 1 : Nat) : Int) := by
      rw [wrap_u64 (n := ((posL os i : Nat) : Int)) (by omega) (by omega), wrap_u64 (by omega) (by omega)]; omega
    rw [er]
    refine ⟨fun hne => absurd rfl hne, fun _ => ?_⟩
    refine ⟨fun n v => ∃ k : Nat, n = k ∧ k ≤ o.2.length ∧ Ext y4 v, fun n _ => (o.2.length - n).toNat, ⟨0, rfl, Nat.zero_le _, Ext.refl _⟩, ?_⟩
    rintro _ n y5 ⟨k, rfl, hk, xy5⟩
    have x95 := x93.trans (q4.ext.trans xy5)
    have hb5 := hb3.ext (q4.ext.trans xy5)
    have ld5 := ld9.ext x95
    refine ⟨_, hb5.cell 2, fun hlt2 => ?_, fun hge2 y6 q6 => ?_⟩
    · obtain ⟨q5, hq5, hcq5⟩ := ld5.ref ho
      refine ⟨s0, (cr9.ext x95).cell 0, by omega, hlt, q5, hq5, _, by rw [Int.toNat_natCast]; exact hcq5, ⟨(Cell_spec ld5.a (r := posL os i + 1) (by omega) (i := (k : Int)) (by omega)).mono ?_⟩⟩
      rintro e y7 ⟨rfl, xy7⟩
      rw [(hinv.cell hN ho (k : Int)).2, if_pos (by omega), Int.toNat_natCast]
      have ld7 := ld5.ext xy7
      obtain ⟨q7, c7, hq7, hcq7, rd7⟩ := ld7.row ho
      have hc7 := rd7.lenu
      obtain ⟨q8, x8, hq8, hx8, hcq8⟩ := rd7.word k (by omega)
      rw [Nat.mul_one] at hcq8
      have ex : o.2.getD k 0 = x8 := by rw [List.getD_eq_getElem?_getD, hx8]; rfl
      have ek : IntKind.i64.wrap ((k : Int) + 1) = ((k + 1 : Nat) : Int) := by rw [wrap_i64 (by omega) (by omega)]; omega
      rw [ex, ek]
      refine ⟨_, _, rfl, fun _ => ⟨by omega, by omega, q7, hq7, c7, by rw [Int.toNat_natCast]; exact hcq7, by omega, by omega, q8, hq8, _, hcq8, fun hne => absurd rfl hne, fun _ => ⟨⟨k + 1, rfl, by omega, xy5.trans xy7⟩, by dsimp only; omega⟩⟩, fun h => absurd rfl h⟩
    · have x96 := x95.trans q6.ext
      have hb6 := hb5.ext q6.ext
      have ld6 := ld9.ext x96
      obtain ⟨q5, hq5, _⟩ := ld6.ref ho
      have cellr : ∀ v', Ext y6 v' → v'.cell? (q5.add (i : Int).toNat) = some (.int .u64 (posL os i + 1 : Nat)) := fun v' xv => by
        obtain ⟨q', hq', hc'⟩ := (ld6.ext xv).ref ho
        rw [hq5] at hq'; injection hq' with hq'; subst hq'
        rw [Int.toNat_natCast]; exact hc'
      refine ⟨fun _ => False, s0, fun v' u' => ((cr9.ext x96).ext u').cell 0, by omega, hlt, q5, hq5, _, fun v' u' => cellr v' u', _, fun v' u' => (hb6.ext u').cell 2, ⟨(Cell_spec ld6.a (r := posL os i + 1) (by omega) (i := o.1.l) (by omega)).mono ?_⟩⟩
      rintro e y7 ⟨rfl, xy7⟩
      rw [(hinv.cell hN ho o.1.l).2, if_neg (by omega)]
      have es : IntKind.i64.wrap (IntKind.i64.wrap (((posL os i : Nat) : Int) + o.1.l) + 2) = ((posL os (i + 1) : Nat) : Int) := by
        rw [wrap_i64 (n := ((posL os i : Nat) : Int) + o.1.l) (by omega) (by omega), wrap_i64 (by omega) (by omega), posL_succ ho]; omega
      have ei : IntKind.i64.wrap ((i : Int) + 1) = ((i + 1 : Nat) : Int) := by rw [wrap_i64 (by omega) (by omega)]; omega
      refine ⟨_, _, rfl, fun hne => absurd rfl hne, fun _ => ⟨_, (hb6.ext xy7).cell 2, ?_⟩⟩
      rw [es, ei]
      exact ⟨⟨i + 1, rfl, rfl, by omega, (xy.trans xy1).trans (xy3.trans ((q4.ext.trans xy5).trans (q6.ext.trans xy7)))⟩, by dsimp only; omega⟩
  have hil : i = os.length := by omega
  have hpos : posL os i = (encs os).length := posL_all (by omega)
  rw [hpos]
  intro y1 m1
  refine ⟨(Blk.new m1).canSet 0 (by simp), fun y2 m2 => ?_⟩
  have zy1 := m1.size; have zy2 := m2.size
  have ci2 := m2.blk1 (Blk.new m1)
  have uy2 : Upd (fun i => i = y.heap.size) y1 y2 := m2.upd
  have zyy := xy.size
  have x92 : Ext w9 y2 := (xy.trans m1.ext).fresh uy2 (by rintro i rfl; omega)
  refine ⟨(all_spec g y2).mono ?_⟩
  rintro e y3 ⟨rfl, cc3, x23⟩
  have ci3 := ci2.ext x23
  have x93 := x92.trans x23
  have zy3 := x23.size
  have zcc := cc3.lt
  refine ⟨_, rfl, fun rec D l y4 u4 hDl hD hR hY => ?_⟩
  have x94 := x93.trans u4
  have eall := allT_laid hN hfit hinv.ok
  have aok := (ld9.ext x94).a.ok
  obtain ⟨hP, hE⟩ := allT_path aok
  rw [eall] at hP hE
  dsimp only at hP hE
  refine ⟨(all1_spec (c := y2.heap.size) (g := g) (l := l)
    (fun k W => k ≤ 131072 ∧ Blk W y2.heap.size 32 [.pointer (some ⟨g, 0, none⟩)] ∧ ∃ m, Path (laidA N os) (laidA N os).use.f m k ∧ Blk W y.heap.size 3 [.int .i64 (m.length : Nat)] ∧ Ext w9 W ∧ Dfr D W ∧ Rdy rec l W)
    (fun W => Blk W y.heap.size 3 [.int .i64 (os.length : Nat)] ∧ Ext w9 W ∧ Dfr D W ∧ Rdy rec l W) ?_ (h0 := (ld9.ext x94).a) ⟨by show 0 ≤ _; omega, cc3.ext u4, [], .nil, ci3.ext u4, x94, hD, hR⟩).mono ?_⟩
  · rintro k W ⟨hk, hcc, m, hPm, ci, x9, hDW, hRW⟩
    refine ⟨hk, hcc, b, laidA N os, (ld9.ext x9).a, fun W' x => ⟨fun hst => ?_, fun hd hst => ?_⟩⟩
    · obtain ⟨em, _⟩ := hPm.uniq hst hP hE
      rw [em, objsL_length] at ci
      exact ⟨ci.ext x, x9.trans x, hDW.upd x not_false, hRW.upd x not_false⟩
    obtain ⟨o, ho, rfl, rfl⟩ := hPm.nextL hst hP hE
    have hmlt := (List.getElem?_eq_some_iff.1 ho).1
    obtain ⟨hok, hpl, _, _⟩ := hinv.at_ hN ho
    have holen := hok.len
    have hlW := hRW.lt; have hDW' := hDW.lt; have zx := x.size; have hMW := hcc.lt; have ciW := ci.lt
    refine hY _ _ _ _ _ W' _ (hRW.upd x not_false) ?_
    intro v1 m1'
    refine ⟨rfl, HB.can m1', fun v2 s2' => ?_⟩
    obtain ⟨hb2, y2'⟩ := HB.made m1' s2'
    have y2'' : Ext W' v2 := y2'
    have xx2 := x.trans y2'
    refine ⟨hRW.upd xx2 not_false, fun v3 u3 q3 hB3 v4 q4 => ?_⟩
    have ci4 := ((ci.ext xx2).upd u3 (by omega)).ext q4.ext
    have x9v : Ext w9 v4 := ((x9.trans xx2).fresh u3 (by rintro i rfl; omega)).trans q4.ext
    have hb4 := (hb2.upd u3 (by omega)).ext q4.ext
    have hB4 := hB3.upd q4.ext not_false
    have ua : Upd (fun i => i = l ∨ i = y.heap.size) W' v4 := (y2''.toS.trans u3 fun i hi hn => ⟨hn, fun e => hn (.inl e)⟩).trans q4.ext fun i hi hn => ⟨hn, not_false⟩
    obtain ⟨q, hq, _⟩ := (ld9.ext x9v).ref ho
    have cellr : ∀ v', Ext v4 v' → v'.cell? (q.add ((m.length : Nat) : Int).toNat) = some (.int .u64 (posL os m.length + 1 : Nat)) := fun v' xv => by
      obtain ⟨q', hq', hc'⟩ := (ld9.ext (x9v.trans xv)).ref ho
      rw [hq] at hq'; injection hq' with hq'; subst hq'
      rw [Int.toNat_natCast]; exact hc'
    obtain ⟨q1, hq1, _⟩ := (ld9.ext x9v).head ho
    have cellh : ∀ v', Ext v4 v' → v'.cell? ((q1.add (((m.length : Nat) : Int).toNat * 4)).add 0) = some (.int .i64 o.1.k) ∧ v'.cell? ((q1.add (((m.length : Nat) : Int).toNat * 4)).add 1) = some (.int .i64 o.1.t) ∧
      v'.cell? ((q1.add (((m.length : Nat) : Int).toNat * 4)).add 2) = some (.int .i64 o.1.l) ∧ v'.cell? ((q1.add (((m.length : Nat) : Int).toNat * 4)).add 3) = some (.int .u64 (o.1.r : Nat)) := fun v' xv => by
      obtain ⟨q', hq', hc'⟩ := (ld9.ext (x9v.trans xv)).head ho
      rw [hq1] at hq'; injection hq' with hq'; subst hq'
      rw [Int.toNat_natCast]; exact hc'
    refine ⟨fun _ => False, _, fun v' u' => (ci4.ext u').cell 0, s0, fun v' u' => ((cr9.ext x9v).ext u').cell 0, fun hge => ⟨s0, fun v' u' => ((cr9.ext x9v).ext u').cell 0, _, fun v' u' => (ci4.ext u').cell 0, by omega, by omega, q, hq, _, fun v' u' => cellr v' u', fun _ => ⟨_, _, _, _, rfl, fun v' u' => ⟨(hb4.ext u').cell 0, (hb4.ext u').cell 1, (hb4.ext u').cell 2, (hb4.ext u').cell 3⟩,
      s1, fun v' u' => ((ch9.ext x9v).ext u').cell 0, _, fun v' u' => (ci4.ext u').cell 0, by omega, by omega, q1, hq1, _, _, _, _, rfl, fun v' u' => cellh v' u', fun hh => ?_, fun _ => ⟨_, ci4.cell 0, ci4.canSet 0 (by simp), fun v5 s5 => ?_⟩⟩, fun hne => absurd rfl hne⟩, fun hle => absurd hle (by omega)⟩
    · rcases hh with ((hh | hh) | hh) | hh <;> exact absurd rfl hh
    have k25 := s5.blk1 ci4
    have ek : IntKind.i64.wrap ((m.length : Int) + 1) = ((m.length + 1 : Nat) : Int) := by rw [wrap_i64 (by omega) (by omega)]; omega
    rw [ek] at k25
    have u5 : Upd (fun i => i = y.heap.size) v4 v5 := s5.upd
    refine ⟨hB4.upd u5 (by omega), fun v6 u6 q6 hR6 => ⟨fun h => (by cases h), fun _ => ?_⟩⟩
    have ub : Upd (fun i => i = l ∨ i = y.heap.size) W' v6 := (ua.trans u5 fun i hi hn => ⟨hn, fun e => hn (.inr e)⟩).trans u6 fun i hi hn => ⟨hn, fun e => hn (.inl e)⟩
    refine ⟨⟨by omega, (hcc.ext x).upd ub (by omega), _, hPm.snoc hst, by rw [List.length_append, List.length_singleton]; exact k25.upd u6 (by omega), ((x9v.fresh u5 (by rintro i rfl; omega)).fresh u6 (by rintro i rfl; omega)), (hDW.upd x not_false).upd ub (by omega), hR6⟩, _, ub, fun i hi => by omega⟩
  rintro e y5 ⟨rfl, ci5, x95, hD5, hR5⟩
  refine ⟨_, rfl, .inl ⟨hR5, fun y6 u6 q6 => ?_⟩⟩
  have x96 := x95.fresh u6 (by rintro i rfl; omega)
  have hD6 := hD5.upd u6 (by omega)
  have ci6 := ci5.upd u6 (by omega)
  refine ⟨(check_spec (ld9.ext x96).a).mono ?_⟩
  rintro e y7 ⟨rfl, x67⟩
  rw [checkT_laid hN hfit hinv.ok hinv.refs]
  have x97 := x96.trans x67
  refine ⟨_, _, rfl, _, (ci6.ext x67).cell 0, s0, (cr9.ext x97).cell 0, fun _ => ⟨fun _ => ⟨fun _ => ⟨(used_spec (ld9.ext x97).a).mono ?_⟩, fun h => absurd rfl h⟩, fun h => absurd rfl h⟩, fun h => absurd (by omega) h⟩
  rintro e y8 ⟨rfl, q8⟩
  have x98 := x97.trans q8.ext
  refine ⟨_, rfl, fun _ => ⟨(left_spec (ld9.ext x98).a).mono ?_⟩, fun h => absurd (by show (((encs os).length - 0 : Nat) : Int) = _; omega) h⟩
  rintro e y9 ⟨rfl, q9⟩
  have x99 := x98.trans q9.ext
  refine ⟨_, rfl, ⟨(words_spec (ld9.ext x99).a).mono ?_⟩⟩
  rintro e y10 ⟨rfl, rfl⟩
  have kf := kf9.ext x99
  refine ⟨_, rfl, kf.canSet 0 (by simp), fun y11 s11 => ?_⟩
  have kf11 := s11.blk1 kf
  have u11 : Upd (fun i => i = w.heap.size) _ y11 := s11.upd
  have hD10 := ((hD6.upd x67 not_false).upd q8.ext not_false).upd q9.ext not_false
  have z59 := x59.size; have z05 := x05.size
  have hlt6 := hD6.lt
  refine ⟨fun h => h, hD10.upd u11 (by omega), fun y12 u12 q12 => ⟨_, (kf11.upd u12 (by rintro (h | h); omega; exact h)).cell 0, rb ?_, ((x09.trans x99).fresh u11 (by rintro i rfl; omega)).fresh u12 (by rintro i (rfl | h); omega; exact h.elim)⟩⟩
  have ew : IntKind.i64.wrap (((laidA N os).n : Int) - ((encs os).length : Int)) = ((N - (encs os).length : Nat) : Int) := by
    show IntKind.i64.wrap ((N : Int) - ((encs os).length : Int)) = _
    rw [wrap_i64 (by omega) (by omega)]; omega
  rw [ew]
  show (((N - ((encs os).length - 0) : Nat) : Int) == ((N - (encs os).length : Nat) : Int)) = true
  simp
end Go.Proofs.Ytcmmdaginkhomaa.V
