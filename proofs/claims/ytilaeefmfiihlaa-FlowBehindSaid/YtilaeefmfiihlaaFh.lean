/-
  Law FlowBehind.
-/
import Derived.Test.YtilaeefmfiihlaaFc
namespace Go.Proofs.Ytilaeefmfiihlaa.V
open Go Go.RowKit
set_option linter.unusedVariables false
set_option linter.unusedSimpArgs false
set_option linter.unusedSectionVars false
set_option maxRecDepth 100000

set_option maxHeartbeats 2000000 in
theorem flowbehind_walk (w : World) (v0 v1 : Value) (x0 : (Par.one (.sl 24 InsR)).T) (x1 : (Par.one (.sl 24 InsR)).T) (h0 : (Par.one (.sl 24 InsR)).Is w v0 x0) (h1 : (Par.one (.sl 24 InsR)).Is w v1 x1) :
    Calls Try.prog 8 #[v0, v1] w fun e w' => e = .returned (.bool true) ∧ Ext w w' := by
  obtain ⟨rfl, hcap, c0, hc⟩ := is_code h0
  obtain ⟨rfl, hcap1, m0, hm0⟩ := is_code h1
  obtain ⟨code, ls⟩ := x0
  obtain ⟨more, ls1⟩ := x1
  dsimp only at *
  refine vc_8 code more _ _ ?_
  simp only [eq_self, false_or, or_false, true_and, and_true, decide_eq_true_eq, decide_eq_false_iff_not, gd_st, gd_sf, exists_eq_left', exists_eq_left, Option.some.injEq, Sl.eta, Nat.reduceLeDiff, Int.reduceLE, Int.reduceLT, Int.reduceEq, Int.reduceNe, Nat.reduceMul, Nat.reduceAdd, Nat.reduceSub, Int.toNat_natCast, beq_iff_eq, bne_iff_ne, beq_eq_false_iff_ne, bne_eq_false_iff_eq, pick_and, pick_or, Bool.and_eq_true, Bool.or_eq_true, Bool.and_eq_false_iff, Bool.or_eq_false_iff, ne_eq, not_false_eq_true, Bool.not_eq_true', Bool.not_eq_false', reduceCtorEq, Nat.le_refl, Nat.zero_mul, Nat.mul_one, Nat.zero_add, Int.reduceToNat, ones, one, add_mk, Decidable.not_not, cond_true, cond_false, true_implies, false_implies, implies_true, Bool.not_true, Bool.not_false]
  refine ⟨(shown_spec w).mono ?_⟩
  rintro e w1 ⟨rfl, x1⟩
  refine ⟨_, rfl, ⟨(cut_spec (hc.ext x1) hcap).mono ?_⟩⟩
  rintro e w2 ⟨s, rfl, hs, hscap, hsa, rfl⟩
  refine ⟨s, rfl, ⟨(cut_spec (hm0.ext x1) hcap1).mono ?_⟩⟩
  rintro e w3 ⟨s', rfl, hs', hscap', hsa', rfl⟩
  obtain ⟨c, rfl⟩ : ∃ c, c = c0.take 40 := ⟨_, rfl⟩
  have hm : (c0.take 40).length ≤ 40 := by rw [List.length_take]; omega
  generalize c0.take 40 = c at *
  obtain ⟨m, rfl⟩ : ∃ m, m = m0.take 40 := ⟨_, rfl⟩
  have hmm : (m0.take 40).length ≤ 40 := by rw [List.length_take]; omega
  generalize m0.take 40 = m at *
  have hsn := hs.lenc
  have hsn' := hs'.lenc
  refine ⟨s', rfl, fun _ => ⟨fun _ => ⟨rfl, x1⟩, fun hne => ?_⟩, fun h => (by cases h)⟩
  have hc0 : 0 < c.length := by omega
  have cne : c ≠ [] := by rintro rfl; exact absurd hc0 (Nat.lt_irrefl _)
  have en : IntKind.i64.wrap ((s.n : Int) - 1) = ((c.length - 1 : Nat) : Int) := by rw [wrap_i64 (by omega) (by omega)]; omega
  rw [en]
  simp only [Int.toNat_natCast]
  obtain ⟨z, hz⟩ : ∃ z, c[c.length - 1]? = some z := ⟨_, List.getElem?_eq_getElem (by omega)⟩
  obtain ⟨p, hp, cz0, cz1, cz2⟩ := hs.ins hz
  refine ⟨by omega, by omega, p, hp, _, cz0, fun w' => w' = w3 ∧ endsT z.op = true, ⟨fun h18 => ⟨fun h21 => ⟨fun _ => x1, fun h37 => ⟨rfl, by unfold endsT; rw [h37]; decide⟩⟩, fun h21 => ⟨rfl, by unfold endsT; rw [h21]; decide⟩⟩, fun h18 => ⟨rfl, by unfold endsT; rw [h18]; decide⟩⟩, ?_⟩
  rintro _ w4 ⟨rfl, hends⟩
  refine ⟨fun n w' => ∃ k : Nat, n = (k : Nat) ∧ k ≤ c.length ∧ (∀ (i : Nat) (x : Ins), i < k → c[i]? = some x → x.a < (c.length : Int)) ∧ w' = w4, fun n _ => (c.length - n).toNat, ⟨0, rfl, Nat.zero_le _, fun i x h => absurd h (Nat.not_lt_zero _), rfl⟩, ?_⟩
  rintro _ n w5 ⟨k, rfl, hk, hall, rfl⟩
  have ek : IntKind.i64.wrap ((k : Int) + 1) = ((k + 1 : Nat) : Int) := by rw [wrap_i64 (by omega) (by omega)]; omega
  rw [ek]
  simp only [Int.toNat_natCast]
  refine ⟨fun hlt => ?_, fun hge w6 n6 => ?_⟩
  · obtain ⟨x, hx⟩ : ∃ x, c[k]? = some x := ⟨_, List.getElem?_eq_getElem (by omega)⟩
    obtain ⟨p', hp', _, cx, _⟩ := hs.ins hx
    rw [hp] at hp'; injection hp' with hp'; subst hp'
    refine ⟨by omega, by omega, p, hp, _, cx, fun _ => x1, fun hlt2 => ⟨⟨k + 1, rfl, by omega, fun i y hi hy => ?_, by trivial⟩, by omega⟩⟩
    rcases Nat.lt_or_ge i k with h | h
    · exact hall i y h hy
    · have : i = k := by omega
      subst this; rw [hx] at hy; injection hy with hy; subst hy; omega
  have S : Shut c := ⟨cne, fun x hx => by rw [hz] at hx; injection hx with hx; subst hx; exact hends, fun i x hx => hall i x (by have := (List.getElem?_eq_some_iff.1 hx).1; omega) hx⟩
  have z6 := n6.size
  have o6 : Own w6 w5.heap.size 47 3 ⟨some ⟨w5.heap.size, 0, none⟩, 0, 0⟩ (cdV []) := Own.lit (z := 3) (n := 0) (cs := []) n6 (Nat.le_refl _) rfl (by decide)
  obtain ⟨s7, w7, hr7, hn7, o7, u7, _⟩ := o6.append (t := 22) (ty := 22) tab_ok (by rfl) (by rfl) (by decide) (hs.ext n6.ext) (cdV_ones _) (by dsimp only; omega) (by dsimp only; omega) (by omega)
  have x57 : Ext w5 w7 := n6.ext.fresh u7 (by rintro i ⟨q, hq, rfl⟩; exact (o6.base q hq).1)
  obtain ⟨s8, w8, hr8, hn8, o8, u8, _⟩ := o7.append (t := 22) (ty := 22) tab_ok (by rfl) (by rfl) (by decide) (hs'.ext x57) (cdV_ones _) (by dsimp only at hn7 ⊢; omega) (by dsimp only at hn7 ⊢; omega) (by have := x57.size; omega)
  have x58 : Ext w5 w8 := x57.fresh u8 (by rintro i ⟨q, hq, rfl⟩; exact (o7.base q hq).1)
  have r8 : Rd w8 3 s8 (cdV (c ++ m)) := by
    have := o8.rd
    rw [cdV_append]
    exact this
  have hcm : (c ++ m).length = c.length + m.length := List.length_append
  have h8n := r8.lenc
  refine ⟨s7, w7, hr7, s8, w8, hr8, ⟨(new_spec (hs.ext x58) (by omega)).mono ?_⟩⟩
  rintro e w9 ⟨ga, rfl, Ga, x9⟩
  refine ⟨_, rfl, ⟨(new_spec (r8.ext x9) (by omega)).mono ?_⟩⟩
  rintro e w10 ⟨gb, rfl, Gb, x10⟩
  refine ⟨_, rfl, fun _ => ⟨fun h => (by cases h), fun _ => ⟨(reached_spec (Ga.ext x10) (by omega)).mono ?_⟩⟩, fun h => (by cases h)⟩
  rintro e w11 ⟨sa, rfl, oa, x11⟩
  refine ⟨sa, rfl, ⟨(reached_spec (Gb.ext x11) (by omega)).mono ?_⟩⟩
  rintro e w12 ⟨sb, rfl, ob, x12⟩
  have hna : c.length = sa.n := by simpa using oa.len1
  have hnb : (c ++ m).length = sb.n := by simpa using ob.len1
  have Ga12 := Ga.ext (x10.trans (x11.trans x12))
  have Gb12 := Gb.ext (x11.trans x12)
  have hs12 := hs.ext (x58.trans (x9.trans (x10.trans (x11.trans x12))))
  have r12 := r8.ext (x9.trans (x10.trans (x11.trans x12)))
  have x012 : Ext w w12 := x1.trans (x58.trans (x9.trans (x10.trans (x11.trans x12))))
  have rdA : ∀ {w' : World}, Ext w12 w' → ∀ {k : Nat}, k < c.length → ∃ p, sa.a = some p ∧ w'.cell? (p.add k) = some (.bool (rB c k)) := fun {w'} u {k} hk => by
    obtain ⟨p, hp, hcc⟩ := (oa.ext (x12.trans u)).rd.2 (by omega)
    exact ⟨p, hp, hcc k _ (by unfold bbv; rw [List.getElem?_map, rcL_get hk]; rfl)⟩
  have rdB : ∀ {w' : World}, Ext w12 w' → ∀ {k : Nat}, k < (c ++ m).length → ∃ p, sb.a = some p ∧ w'.cell? (p.add k) = some (.bool (rB c k)) := fun {w'} u {k} hk => by
    obtain ⟨p, hp, hcc⟩ := (ob.ext u).rd.2 (by omega)
    exact ⟨p, hp, hcc k _ (by unfold bbv; rw [List.getElem?_map, rcL_get hk, rB_more S]; rfl)⟩
  refine ⟨sb, rfl, fun _ => ⟨fun hh => absurd (by omega) hh, fun _ => ?_⟩, fun hh => absurd (by omega) hh⟩
  refine ⟨fun n w' => ∃ i : Nat, n = (i : Nat) ∧ i ≤ (c ++ m).length ∧ Ext w12 w', fun n _ => ((c ++ m).length - n).toNat, ⟨0, rfl, Nat.zero_le _, Ext.refl _⟩, ?_⟩
  rintro _ n w13 ⟨i, rfl, hi, x13⟩
  have ei : IntKind.i64.wrap ((i : Int) + 1) = ((i + 1 : Nat) : Int) := by rw [wrap_i64 (by omega) (by omega)]; omega
  rw [ei]
  simp only [Int.toNat_natCast]
  refine ⟨fun hlt => ⟨fun hni => ?_, fun hni w14 q14 => ?_⟩, fun hge => ⟨(blocks_spec (Ga12.ext x13) (by omega)).mono ?_⟩⟩
  · obtain ⟨p, hp, hcr⟩ := rdB x13 (k := i) (by omega)
    refine ⟨by omega, by omega, p, hp, _, hcr, fun hb => ?_, fun _ => ⟨⟨i + 1, rfl, by omega, x13⟩, by omega⟩⟩
    have := Rc_lt (rB_iff.1 hb)
    omega
  · have x14 := x13.trans q14.ext
    have hic : i < c.length := by omega
    obtain ⟨p1, hp1, _⟩ := rdA x14 hic
    obtain ⟨p2, hp2, _⟩ := rdB x14 (k := i) (by omega)
    have ra : ∀ w', Upd (fun _ => False) w14 w' → w'.cell? (p1.add i) = some (.bool (rB c i)) := fun w' u => by
      obtain ⟨p, hp, h⟩ := rdA (x14.trans u) hic
      rw [hp1] at hp; injection hp with hp; subst hp; exact h
    have rb : ∀ w', Upd (fun _ => False) w14 w' → w'.cell? (p2.add i) = some (.bool (rB c i)) := fun w' u => by
      obtain ⟨p, hp, h⟩ := rdB (x14.trans u) (k := i) (by omega)
      rw [hp2] at hp; injection hp with hp; subst hp; exact h
    refine ⟨fun _ => False, by omega, by omega, p1, hp1, _, ra, by omega, by omega, p2, hp2, _, rb, fun _ => ⟨(next_spec (hs12.ext x14) (by omega) (i : Nat)).mono ?_⟩, fun hne => absurd rfl hne⟩
    rintro e w15 ⟨s15, rfl, o15, x15⟩
    refine ⟨s15, rfl, x15, ⟨(next_spec (r12.ext (x14.trans x15)) (by omega) (i : Nat)).mono ?_⟩⟩
    rintro e w16 ⟨s16, rfl, o16, x16⟩
    have hnx : nextT (c ++ m) (i : Nat) = nextT c (i : Nat) := by
      rw [nextT_nat hic, nextT_nat (by omega), nxT_more S hic]
    rw [hnx] at o16
    refine ⟨s16, rfl, ⟨(equal_spec (o15.ext x16).rd o16.rd (by have := nextT_le2 c (i : Nat); omega)).mono ?_⟩⟩
    rintro e w17 ⟨rfl, x17⟩
    have x17' := ((x14.trans x15).trans x16).trans x17
    refine ⟨_, rfl, fun _ => ⟨(over_spec (Ga12.ext x17') (by omega) (i : Nat) 0).mono ?_⟩, fun hb => absurd rfl (of_decide_eq_false hb)⟩
    rintro e w18 ⟨rfl, rfl⟩
    refine ⟨_, rfl, Upd.refl _ _, ⟨(over_spec (Gb12.ext x17') (by omega) (i : Nat) 0).mono ?_⟩⟩
    rintro e w19 ⟨rfl, rfl⟩
    have e0 : overB (c ++ m) (i : Nat) 0 = overB c (i : Nat) 0 := overB_more (y := 0) S hic hc0
    rw [e0]
    refine ⟨_, rfl, fun _ => ⟨(over_spec (Ga12.ext x17') (by omega) ((c.length - 1 : Nat) : Int) (i : Nat)).mono ?_⟩, fun hne => absurd rfl hne⟩
    rintro e w20 ⟨rfl, rfl⟩
    refine ⟨_, rfl, Upd.refl _ _, ⟨(over_spec (Gb12.ext x17') (by omega) ((c.length - 1 : Nat) : Int) (i : Nat)).mono ?_⟩⟩
    rintro e w21 ⟨rfl, rfl⟩
    rw [overB_more S (by omega) hic]
    exact ⟨_, rfl, fun hne => absurd rfl hne, fun _ => ⟨⟨i + 1, rfl, by omega, x17'⟩, by omega⟩⟩
  rintro e w14 ⟨ta, sta, rfl, Ma, x14⟩
  refine ⟨ta, rfl, ⟨(blocks_spec (Gb12.ext (x13.trans x14)) (by omega)).mono ?_⟩⟩
  rintro e w15 ⟨tb, stb, rfl, Mb, x15⟩
  have eb : blk (c ++ m) (c ++ m).length = blk c c.length := by rw [hcm]; exact blk_end S _
  rw [eb] at Mb
  have hll := blk_len_le c c.length
  have hB2 : ∀ b ∈ blk c c.length, b.2.2.length ≤ 2 := fun b hb => by rw [((blk_ok c c.length).b b hb).2]; exact nxT_le2 _ _
  generalize blk c c.length = l at *
  have hta := Ma.sn
  have htb := Mb.sn
  refine ⟨tb, rfl, fun hne => absurd (by omega) hne, fun _ => ?_⟩
  refine ⟨fun n w' => ∃ j : Nat, n = (j : Nat) ∧ j ≤ l.length ∧ Ext w15 w', fun n _ => (l.length - n).toNat, ⟨0, rfl, Nat.zero_le _, Ext.refl _⟩, ?_⟩
  rintro _ n w16 ⟨j, rfl, hj, x16⟩
  have ej : IntKind.i64.wrap ((j : Int) + 1) = ((j + 1 : Nat) : Int) := by rw [wrap_i64 (by omega) (by omega)]; omega
  rw [ej]
  simp only [Int.toNat_natCast]
  refine ⟨fun hlt w17 q17 => ?_, fun _ => ((x012.trans x13).trans x14).trans (x15.trans x16)⟩
  obtain ⟨b, hb⟩ : ∃ b, l[j]? = some b := ⟨_, List.getElem?_eq_getElem (by omega)⟩
  obtain ⟨pa, qa, hpa, hqa, ca⟩ := Ma.at_ hb
  obtain ⟨pb, qb, hpb, hqb, cb⟩ := Mb.at_ hb
  have xa : ∀ {w' : World}, Upd (fun _ => False) w17 w' → Ext w14 w' := fun u => (x15.trans (x16.trans q17.ext)).trans u
  have xb : ∀ {w' : World}, Upd (fun _ => False) w17 w' → Ext w15 w' := fun u => (x16.trans q17.ext).trans u
  have h2 := hB2 b (List.mem_of_getElem? hb)
  refine ⟨fun _ => False, by omega, by omega, pa, hpa, _, fun w' u => (ca (xa u)).1, by omega, by omega, pb, hpb, _, fun w' u => (cb (xb u)).1, fun _ => ⟨by omega, by omega, pa, hpa, _, fun w' u => (ca (xa u)).2.1, by omega, by omega, pb, hpb, _, fun w' u => (cb (xb u)).2.1, fun _ => ⟨by omega, by omega, pa, hpa, qa.2.2, fun w' u => (ca (xa u)).2.2.1, by omega, by omega, pb, hpb, qb.2.2, fun w' u => (cb (xb u)).2.2.1,
    ⟨(equal_spec (ca (xa (Upd.refl _ _))).2.2.2.rd (cb (xb (Upd.refl _ _))).2.2.2.rd (by rw [castL_len]; omega)).mono ?_⟩⟩, fun hne => absurd rfl hne⟩, fun hne => absurd rfl hne⟩
  rintro e w18 ⟨rfl, x18⟩
  exact ⟨_, rfl, fun hbb => absurd rfl (of_decide_eq_false hbb), fun _ => ⟨⟨j + 1, rfl, by omega, (x16.trans q17.ext).trans x18⟩, by omega⟩⟩
end Go.Proofs.Ytilaeefmfiihlaa.V
