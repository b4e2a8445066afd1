/-
  The document's Blocks; law FlowBlocks.
-/
import Derived.Test.YtilaeefmfiihlaaFf
import Derived.Test.YtilaeefmfiihlaaFc
namespace Go.Proofs.Ytilaeefmfiihlaa.V
open Go Go.RowKit
set_option linter.unusedVariables false
set_option linter.unusedSimpArgs false
set_option linter.unusedSectionVars false
set_option maxRecDepth 100000

theorem BM.upd {w w' : World} {S : Nat → Prop} {W T : Nat} {s : Sl} {ss : List (Nat × Nat × Sl)} {bl : List Bk} (h : BM w W T s ss bl) (u : Upd S w w') (hS : ∀ k, S k → k < W) : BM w' W T s ss bl :=
  ⟨h.own.upd u fun p hp hs => by have := hS _ hs; have := (h.own.base p hp).1; omega, h.len,
    fun k q b hq hb => by
      obtain ⟨h1, h2, h3⟩ := h.m k q b hq hb
      exact ⟨h1, h2, h3.upd u fun p hp hs => by have := hS _ hs; have := (h3.base p hp).1; omega⟩, h.ap⟩
theorem BM.mono {w : World} {W W' T : Nat} {s : Sl} {ss : List (Nat × Nat × Sl)} {bl : List Bk} (h : BM w W T s ss bl) (hW : W' ≤ W) : BM w W' T s ss bl :=
  ⟨h.own.mono hW, h.len, fun k q b hq hb => by obtain ⟨h1, h2, h3⟩ := h.m k q b hq hb; exact ⟨h1, h2, h3.mono hW⟩, h.ap⟩
/-- one more block -/
theorem BM.push {w1 w2 : World} {W T b0 t : Nat} {s s' s3 : Sl} {ss : List (Nat × Nat × Sl)} {bl : List Bk} {ns : List Nat} (h : BM w1 W T s ss bl) (hT : T ≠ 3) (o3 : Own w1 W 3 1 s3 (iv (castL ns))) (ha : ∀ (k : Nat) (q : Nat × Nat × Sl), ss[k]? = some q → Apart q.2.2 s3)
    (o : Own w2 W T 3 s' (bkV ss ++ bkV [(b0, t, s3)])) (u : Upd s.own w1 w2) : BM w2 W T s' (ss ++ [(b0, t, s3)]) (bl ++ [(b0, t, ns)]) := by
  have keep : ∀ (q : Sl) (l : List Value), Own w1 W 3 1 q l → Own w2 W 3 1 q l := fun q l hq => hq.upd u (by rintro p hp ⟨p', hp', e⟩; exact own_ne h.own hq hT p' p hp' hp e.symm)
  refine ⟨by rw [bkV_append]; exact o, by rw [List.length_append, List.length_append, h.len]; rfl, fun k q b hq hb => ?_, fun j k q r hjk hq hr => ?_⟩
  · rcases snoc_cases hq with ⟨hq, hk⟩ | ⟨hk, rfl⟩
    · rw [List.getElem?_append_left (by rw [← h.len]; exact hk)] at hb
      obtain ⟨h1, h2, h3⟩ := h.m k q b hq hb
      exact ⟨h1, h2, keep _ _ h3⟩
    · rw [List.getElem?_append_right (by rw [← h.len]; omega), ← h.len, hk, Nat.sub_self] at hb
      simp at hb; subst hb
      exact ⟨rfl, rfl, keep _ _ o3⟩
  · rcases snoc_cases hq with ⟨hq, _⟩ | ⟨hk, rfl⟩
    · rcases snoc_cases hr with ⟨hr, _⟩ | ⟨hk', rfl⟩
      · exact h.ap j k q r hjk hq hr
      · exact ha _ _ hq
    · rcases snoc_cases hr with ⟨hr, _⟩ | ⟨hk', rfl⟩
      · exact (ha _ _ hr).symm
      · omega
/-- leaders, marked up to i -/
def LD (w : World) (W : Nat) (c : List Ins) (i : Nat) : Prop := ∃ m : List Bool, Blk w W 4 (bbv m) ∧ m.length = c.length ∧ ∀ k, k < i → m[k]? = some (ldB c k)
section
variable {w w' : World} {W i : Nat} {c : List Ins} {code : Sl}
theorem LD.ext (h : LD w W c i) (u : Ext w w') : LD w' W c i := by
  obtain ⟨m, h1, h2, h3⟩ := h; exact ⟨m, h1.ext u, h2, h3⟩
theorem LD.get (h : LD w W c i) {k : Nat} (hk : k < i) : w.cell? ⟨W, k, none⟩ = some (.bool (ldB c k)) := by
  obtain ⟨m, h1, h2, h3⟩ := h
  rw [h1.cell]; unfold bbv; rw [List.getElem?_map, h3 k hk]; rfl
set_option maxHeartbeats 1000000 in
theorem rblocks_spec (h : Rd w 3 code (cdV c)) (hm : c.length ≤ 1000) :
    Calls Try.prog 23 #[.slice code.a code.n code.c] w fun e w' => ∃ (s : Sl) (ss : List (Nat × Nat × Sl)), e = .returned (.slice s.a s.n s.c) ∧ BM w' w.heap.size 43 s ss (blk c c.length) ∧ Ext w w' := by
  refine vc_23 _ _ _ ?_
  have hn := h.lenc
  simp only [eq_self, false_or, or_false, true_and, and_true, decide_eq_true_eq, decide_eq_false_iff_not, gd_st, gd_sf, exists_eq_left', exists_eq_left, Option.some.injEq, Sl.eta, Nat.reduceLeDiff, Int.reduceLE, Int.reduceLT, Int.reduceEq, Int.reduceNe, Nat.reduceMul, Nat.reduceAdd, Nat.reduceSub, Int.toNat_natCast, beq_iff_eq, bne_iff_ne, beq_eq_false_iff_ne, bne_eq_false_iff_eq, pick_and, pick_or, Bool.and_eq_true, Bool.or_eq_true, Bool.and_eq_false_iff, Bool.or_eq_false_iff, ne_eq, not_false_eq_true, Bool.not_eq_true', Bool.not_eq_false', reduceCtorEq, Nat.le_refl, Nat.zero_mul, Nat.mul_one, Nat.zero_add, Int.reduceToNat, ones, one, add_mk, Decidable.not_not, cond_true, cond_false, true_implies, false_implies, implies_true, Bool.not_true, Bool.not_false]
  refine ⟨(rreached_spec h hm).mono ?_⟩
  rintro e w1 ⟨rs, rfl, o1, x1⟩
  have hrn : c.length = rs.n := by simpa using o1.len1
  have z1 := x1.size
  refine ⟨rs, rfl, ⟨by omega, by omega, by omega, by omega⟩, fun w2 n2 => ?_⟩
  have L2 : LD w2 w1.heap.size c 0 := by
    have k2 := Blk.new n2
    rw [zrow_one] at k2
    exact ⟨List.replicate code.n false, by unfold bbv; rw [List.map_replicate]; exact k2, by rw [List.length_replicate]; exact hn, fun k hk => absurd hk (Nat.not_lt_zero _)⟩
  refine ⟨fun n w' => ∃ i : Nat, n = (i : Nat) ∧ i ≤ c.length ∧ LD w' w1.heap.size c i ∧ Ext w1 w', fun n _ => (c.length - n).toNat, ⟨0, rfl, Nat.zero_le _, L2, n2.ext⟩, ?_⟩
  rintro _ n w3 ⟨i, rfl, hi, L3, x3⟩
  have ei : IntKind.i64.wrap ((i : Int) + 1) = ((i + 1 : Nat) : Int) := by rw [wrap_i64 (by omega) (by omega)]; omega
  rw [ei]
  refine ⟨fun hlt => ⟨(rleader_spec (h.ext (x1.trans x3)) (o1.rd.ext x3) hm (x := i) (by omega)).mono ?_⟩, fun hge => ?_⟩
  · rintro e w4 ⟨rfl, x4⟩
    obtain ⟨m, m1, m2, m3⟩ := L3.ext x4
    simp only [Int.toNat_natCast]
    refine ⟨_, rfl, by omega, by omega, m1.canSet _ (by rw [bbv_length]; omega), fun w5 s5 => ⟨⟨i + 1, rfl, by omega, ⟨m.set i (ldB c i), ?_, by rw [List.length_set]; exact m2, fun k hk => ?_⟩, (x3.trans x4).fresh s5.upd (by rintro k rfl; exact Nat.le_refl _)⟩, by omega⟩⟩
    · have e1 : bbv (m.set i (ldB c i)) = (bbv m).set i (.bool (ldB c i)) := by unfold bbv; rw [List.map_set]
      rw [e1]; exact s5.blk1 m1
    · rw [List.getElem?_set]
      by_cases hh : i = k
      · subst hh; rw [if_pos rfl, if_pos (by omega)]
      · rw [if_neg hh]; exact m3 k (by omega)
  have hin : i = c.length := by omega
  rw [hin] at L3
  have x13 := x1.trans x3
  refine ⟨fun s n w' => ∃ (i : Nat) (ss : List (Nat × Nat × Sl)) (l : List Bk), n = (i : Nat) ∧ i ≤ c.length ∧ BM w' w3.heap.size 43 s ss l ∧ BkP c i c.length l ∧ Ext w3 w', fun _ n _ => (c.length - n).toNat,
    ⟨0, [], [], rfl, Nat.zero_le _, ⟨Own.nil _ _ _ _, rfl, fun k q b hq => (by simp at hq), fun j k q r _ hq => (by simp at hq)⟩, ⟨rfl, fun b hb => (by cases hb)⟩, Ext.refl _⟩, ?_⟩
  rintro _ s n w4 ⟨j, ss, l, rfl, hj, M4, P4, x4⟩
  have ej : IntKind.i64.wrap ((j : Int) + 1) = ((j + 1 : Nat) : Int) := by rw [wrap_i64 (by omega) (by omega)]; omega
  rw [ej]
  refine ⟨fun hlt4 => ?_, fun hge4 => ?_⟩
  rotate_left
  · have hjn : j = c.length := by omega
    rw [hjn] at P4
    rw [P4.uniq (blk_ok c c.length)] at M4
    exact ⟨s, ss, rfl, M4.mono (by have := x13.size; omega), x13.trans x4⟩
  have hjc : j < c.length := by omega
  simp only [Int.toNat_natCast]
  refine ⟨by omega, by omega, _, (L3.ext x4).get hjc, fun hlf => ⟨⟨j + 1, ss, l, rfl, by omega, M4, ⟨by rw [lds_no fun hh => by rw [ldB_iff.2 hh] at hlf; cases hlf]; exact P4.f, P4.b⟩, x4⟩, by omega⟩, fun hlt' => ?_⟩
  have hL := ldB_iff.1 hlt'
  have hll : l.length ≤ j := by
    have := congrArg List.length P4.f
    rw [List.length_map] at this
    rw [this]
    unfold lds
    have := List.length_filter_le (ldB c) (List.range j)
    rwa [List.length_range] at this
  have hs4 := M4.sn
  have z3 := x13.size
  have z4 := x4.size
  have fin : ∀ (t : Nat) (w5 w6 : World) (s6 : Sl), EndP c c.length j t → Ext w4 w5 → Ext w5 w6 → Own w6 w5.heap.size 3 1 s6 (iv (nextT c ((t : Int) - 1))) → ∀ w7, NewW w6 (.cells #[.int .i64 (j : Nat), .int .i64 (t : Nat), .slice s6.a s6.n s6.c] 43) w7 →
      ∃ (sl : Sl) (w8 : World), Runs Try.prog (Builtin.append_ #[39, 39] 39 #[.slice s.a s.n s.c, .slice (some ⟨w6.heap.size, 0, none⟩) 1 1]) w7 (.slice sl.a sl.n sl.c) w8 ∧
        (∃ (i : Nat) (ss : List (Nat × Nat × Sl)) (l : List Bk), ((j + 1 : Nat) : Int) = (i : Nat) ∧ i ≤ c.length ∧ BM w8 w3.heap.size 43 sl ss l ∧ BkP c i c.length l ∧ Ext w3 w8) ∧ (((c.length : Nat) : Int) - ((j + 1 : Nat) : Int)).toNat < (((c.length : Nat) : Int) - ((j : Nat) : Int)).toNat := by
    intro t w5 w6 s6 hE x5 x6 o6 w7 n7
    have hEl := hE.lt
    have hEn := hE.le
    have e1 : ((t : Nat) : Int) - 1 = ((t - 1 : Nat) : Int) := by omega
    rw [e1, nextT_nat (by omega)] at o6
    have z5 := x5.size
    have z6 := x6.size
    have z7 := n7.size
    have rd : Rd w7 3 ⟨some ⟨w6.heap.size, 0, none⟩, 1, 1⟩ (bkV [(j, t, s6)]) := (Blk.new n7).rd (z := 3) (o := 0) (n := 1) (c := 1) (by simp)
    have M7 := ((M4.ext x5).ext x6).ext n7.ext
    obtain ⟨s', w8, hr8, hn8, o8, u8, _⟩ := M7.own.append (t := 39) (ty := 39) tab_ok (by rfl) (by rfl) (by decide) rd (bkV_ones _) (by dsimp only; omega) (by dsimp only; omega) (by omega)
    have M8 := M7.push (by decide) ((o6.mono (by omega)).ext n7.ext) (fun k q hq p1 p2 h1 h2 => by
      obtain ⟨l, ho⟩ := M4.list hq
      have := (ho.base p1 h1).2
      have := (o6.base p2 h2).1
      omega) o8 u8
    refine ⟨s', w8, hr8, ⟨j + 1, _, _, rfl, by omega, M8, ⟨?_, fun b hb => ?_⟩, (((x4.trans x5).trans x6).trans n7.ext).fresh u8 (by rintro k ⟨q, hq, rfl⟩; exact (M4.own.base q hq).1)⟩, by omega⟩
    · rw [List.map_append, P4.f, lds_yes hL]; rfl
    · rw [List.mem_append, List.mem_singleton] at hb
      rcases hb with hb | rfl
      · exact P4.b b hb
      · exact ⟨hE, rfl⟩
  refine ⟨fun n w' => ∃ t : Nat, n = (t : Nat) ∧ j < t ∧ t ≤ c.length ∧ (∀ y, j < y → y < t → stp c y = true) ∧ Ext w4 w', fun n _ => (c.length - n).toNat, ⟨j + 1, rfl, by omega, by omega, fun y h1 h2 => absurd h1 (by omega), Ext.refl _⟩, ?_⟩
  rintro _ n w5 ⟨t, rfl, ht1, ht2, hall, x5⟩
  have et : IntKind.i64.wrap ((t : Int) + 1) = ((t + 1 : Nat) : Int) := by rw [wrap_i64 (by omega) (by omega)]; omega
  have et1 : IntKind.i64.wrap ((t : Int) - 1) = (t : Int) - 1 := wrap_i64 (by omega) (by omega)
  rw [et, et1]
  have x35 := x13.trans (x4.trans x5)
  have endP : (t = c.length ∨ stp c t = false) → EndP c c.length j t := fun hh => ⟨ht1, ht2, hall, hh⟩
  have tail := rnext_spec (h.ext x35) hm ((t : Int) - 1)
  refine ⟨fun hlt5 => ?_, fun hge5 => ⟨tail.mono ?_⟩⟩
  rotate_left
  · rintro e w6 ⟨s6, rfl, o6, x6⟩
    exact ⟨s6, rfl, (by show 2 ≤ 3; decide), (by show 3 ≤ 3; decide), rfl, fin t w5 w6 s6 (endP (.inl (by omega))) x5 x6 o6⟩
  have htc : t < c.length := by omega
  obtain ⟨p, hp, hcp⟩ := (o1.ext (x3.trans (x4.trans x5))).rd.2 (by omega)
  have hcr := hcp t _ (show (bbv (rcL c))[t]? = some (.bool (rB c t)) by unfold bbv; rw [List.getElem?_map, rcL_get htc]; rfl)
  have hcl := (L3.ext (x4.trans x5)).get htc
  simp only [Int.toNat_natCast]
  refine ⟨by omega, by omega, p, hp, _, hcr, fun hrt => ⟨by omega, by omega, _, hcl, fun hlf => ⟨tail.mono ?_⟩, fun hlt6 => ⟨tail.mono ?_⟩⟩, fun hrf => ⟨tail.mono ?_⟩⟩
  · have ht := stp_iff.2 ⟨rB_iff.1 hrt, fun hh => by rw [ldB_iff.2 hh] at hlf; cases hlf⟩
    have hnx : nxT c (t - 1) = [t] := by
      have : t = t - 1 + 1 := by omega
      rw [this] at ht
      have := stp_next ht
      rw [this]; congr 1; omega
    rintro e w6 ⟨s6, rfl, o6, x6⟩
    rw [show ((t : Nat) : Int) - 1 = ((t - 1 : Nat) : Int) by omega, nextT_nat (by omega), hnx] at o6
    refine ⟨s6, rfl, ⟨(rhas_spec o6.rd (t : Nat) (by rw [castL_len]; simp)).mono ?_⟩⟩
    rintro e w7 ⟨rfl, rfl⟩
    refine ⟨_, rfl, fun _ => ⟨⟨t + 1, rfl, by omega, by omega, fun y h1 h2 => ?_, x5.trans x6⟩, by omega⟩, fun hb => absurd (by simp [castL]) (of_decide_eq_false hb)⟩
    rcases Nat.lt_or_ge y t with h3 | h3
    · exact hall y h1 h3
    · have : y = t := by omega
      subst this; exact ht
  · rintro e w6 ⟨s6, rfl, o6, x6⟩
    exact ⟨s6, rfl, (by show 2 ≤ 3; decide), (by show 3 ≤ 3; decide), rfl, fin t w5 w6 s6 (endP (.inr (stp_no.2 fun hh => hh.2 (ldB_iff.1 hlt6)))) x5 x6 o6⟩
  · rintro e w6 ⟨s6, rfl, o6, x6⟩
    exact ⟨s6, rfl, (by show 2 ≤ 3; decide), (by show 3 ≤ 3; decide), rfl, fin t w5 w6 s6 (endP (.inr (stp_no.2 fun hh => by rw [rB_iff.2 hh.1] at hrf; cases hrf))) x5 x6 o6⟩
end
set_option maxHeartbeats 2000000 in
theorem flowblocks_walk (w : World) (v0 : Value) (x0 : (Par.one (.sl 24 InsR)).T) (h0 : (Par.one (.sl 24 InsR)).Is w v0 x0) :
    Calls Try.prog 5 #[v0] w fun e w' => e = .returned (.bool true) ∧ Ext w w' := by
  obtain ⟨rfl, hcap, c0, hc⟩ := is_code h0
  obtain ⟨code, ls⟩ := x0
  dsimp only at *
  refine vc_5 code _ _ ?_
  simp only [eq_self, false_or, or_false, true_and, and_true, decide_eq_true_eq, decide_eq_false_iff_not, gd_st, gd_sf, exists_eq_left', exists_eq_left, Option.some.injEq, Sl.eta, Nat.reduceLeDiff, Int.reduceLE, Int.reduceLT, Int.reduceEq, Int.reduceNe, Nat.reduceMul, Nat.reduceAdd, Nat.reduceSub, Int.toNat_natCast, beq_iff_eq, bne_iff_ne, beq_eq_false_iff_ne, bne_eq_false_iff_eq, pick_and, pick_or, Bool.and_eq_true, Bool.or_eq_true, Bool.and_eq_false_iff, Bool.or_eq_false_iff, ne_eq, not_false_eq_true, Bool.not_eq_true', Bool.not_eq_false', reduceCtorEq, Nat.le_refl, Nat.zero_mul, Nat.mul_one, Nat.zero_add, Int.reduceToNat, ones, one, add_mk, Decidable.not_not, cond_true, cond_false, true_implies, false_implies, implies_true, Bool.not_true, Bool.not_false]
  refine ⟨(shown_spec w).mono ?_⟩
  rintro e w1 ⟨rfl, x1⟩
  refine ⟨_, rfl, ⟨(cut_spec (hc.ext x1) hcap).mono ?_⟩⟩
  rintro e w2 ⟨s, rfl, hs, hscap, hsa, rfl⟩
  obtain ⟨c, rfl⟩ : ∃ c, c = c0.take 40 := ⟨_, rfl⟩
  have hm : (c0.take 40).length ≤ 40 := by rw [List.length_take]; omega
  generalize c0.take 40 = c at *
  have hsn := hs.lenc
  refine ⟨s, rfl, ⟨(lent_spec hs (by omega)).mono ?_⟩⟩
  rintro e w3 ⟨oa, oc, rfl, o3, x3⟩
  have hoff := lent_off (B := 0) hs o3
  refine ⟨⟨oa, s.n, oc⟩, rfl, ⟨(new_spec (code := ⟨oa, s.n, oc⟩) (o3.lentR hsn) (by omega)).mono ?_⟩⟩
  rintro e w4 ⟨g, rfl, G4, x4⟩
  have o4 := o3.ext x4
  have hs4 := hs.ext (x3.trans x4)
  refine ⟨_, rfl, ⟨(kept_spec (code := s) o4 hs4 hoff (by omega)).mono ?_⟩⟩
  rintro e w5 ⟨rfl, u5⟩
  have G5 := G4.off u5 (by
    rintro k ⟨p, hp, rfl⟩
    obtain ⟨g', cs, ha, _, hb, _⟩ := o4.blk (by dsimp only; rw [hp]; simp)
    dsimp only at ha
    rw [hp] at ha; injection ha with ha; subst ha
    exact ⟨_, hb⟩)
  have hs5 : Rd w5 3 s (cdV c) := hs4.upd0 u5 fun h0 q hq => by
    rintro ⟨p, hp, e⟩
    exact hoff h0 p q hp hq e
  have x05 : Ext w w5 := ((x1.trans x3).trans x4).fresh u5 (by rintro j ⟨p, hp, rfl⟩; have := (o3.base p hp).1; have := x1.size; omega)
  refine ⟨_, rfl, fun _ => ⟨fun _ => ⟨fun h => (by cases h), fun _ => ?_⟩, fun h => (by cases h)⟩, fun h => (by cases h)⟩
  refine ⟨fun n w' => ∃ k : Nat, n = (k : Nat) ∧ k ≤ 2 ∧ Ext w5 w', fun n _ => (2 - n).toNat, ⟨0, rfl, Nat.zero_le _, Ext.refl _⟩, ?_⟩
  rintro _ n w6 ⟨k, rfl, hk, x6⟩
  have ek : IntKind.i64.wrap ((k : Int) + 1) = ((k + 1 : Nat) : Int) := by rw [wrap_i64 (by omega) (by omega)]; omega
  rw [ek]
  refine ⟨fun hlt => ⟨(blocks_spec (G5.ext x6) (by omega)).mono ?_⟩, fun hge => x05.trans x6⟩
  rintro e w7 ⟨s7, ss, rfl, M7, x7⟩
  refine ⟨s7, rfl, ⟨(rblocks_spec (hs5.ext (x6.trans x7)) (by omega)).mono ?_⟩⟩
  rintro e w8 ⟨s8, st, rfl, M8, x8⟩
  have hll := blk_len_le c c.length
  have hB2 : ∀ b ∈ blk c c.length, b.2.2.length ≤ 2 := fun b hb => by rw [((blk_ok c c.length).b b hb).2]; exact nxT_le2 _ _
  generalize blk c c.length = l at *
  have h7n := M7.sn
  have h8n := M8.sn
  refine ⟨s8, rfl, fun hne => absurd (by omega) hne, fun _ => ?_⟩
  have M7' := M7.ext x8
  refine ⟨fun n w' => ∃ (i : Nat) (xs : List Value), n = (i : Nat) ∧ i ≤ l.length ∧ Own w' w6.heap.size 42 3 s7 xs ∧ (∀ j, i * 3 ≤ j → xs[j]? = (bkV ss)[j]?) ∧ (∀ (k : Nat) (q : Nat × Nat × Sl) (b : Bk), i ≤ k → ss[k]? = some q → l[k]? = some b → Own w' w6.heap.size 3 1 q.2.2 (iv (castL b.2.2))) ∧ BM w' w7.heap.size 43 s8 st l ∧ Ext w6 w',
    fun n _ => (l.length - n).toNat, ⟨0, _, rfl, Nat.zero_le _, M7'.own, fun _ _ => rfl, fun k q b _ hq hb => (M7'.m k q b hq hb).2.2, M8, x7.trans x8⟩, ?_⟩
  rintro _ n w9 ⟨i, xs, rfl, hi, o9, hxs, hl9, M9, x9⟩
  have ei : IntKind.i64.wrap ((i : Int) + 1) = ((i + 1 : Nat) : Int) := by rw [wrap_i64 (by omega) (by omega)]; omega
  rw [ei]
  simp only [Int.toNat_natCast]
  refine ⟨fun hlt9 w10 q10 => ?_, fun _ => ⟨⟨k + 1, rfl, by omega, x6.trans x9⟩, by omega⟩⟩
  obtain ⟨b, hb⟩ : ∃ b, l[i]? = some b := ⟨_, List.getElem?_eq_getElem (by omega)⟩
  obtain ⟨q, hq⟩ : ∃ q, ss[i]? = some q := ⟨_, List.getElem?_eq_getElem (by rw [M7.len]; omega)⟩
  obtain ⟨m1, m2, m3⟩ := M7.m i q b hq hb
  obtain ⟨f0, f1, f2⟩ := bkV_get hq
  have o10 := o9.ext q10.ext
  obtain ⟨p, hp, hcp⟩ := o10.rd.2 (by omega)
  have lq := hl9 i q b (Nat.le_refl _) hq hb
  have c0 : w10.cell? ((p.add (i * 3)).add 0) = some (.int .i64 (b.1 : Nat)) := by rw [add_add, ← m1]; exact hcp _ _ (by rw [hxs _ (by omega)]; exact f0)
  have c1 : w10.cell? ((p.add (i * 3)).add 1) = some (.int .i64 (b.2.1 : Nat)) := by rw [add_add, ← m2]; exact hcp _ _ (by rw [hxs _ (by omega)]; exact f1)
  have c2 : w10.cell? ((p.add (i * 3)).add 2) = some (.slice q.2.2.a q.2.2.n q.2.2.c) := by rw [add_add]; exact hcp _ _ (by rw [hxs _ (by omega)]; exact f2)
  obtain ⟨p', q', hp', hq', cells⟩ := M9.at_ hb
  have h2 := hB2 b (List.mem_of_getElem? hb)
  have xq : ∀ {w' : World}, Upd (fun _ => False) w10 w' → Ext w9 w' := fun u => q10.ext.trans u
  refine ⟨fun _ => False, by omega, by omega, p, hp, _, fun w' u => u.cell c0 id, by omega, by omega, p', hp', _, fun w' u => (cells (xq u)).1, fun _ => ⟨by omega, by omega, p, hp, _, fun w' u => u.cell c1 id, by omega, by omega, p', hp', _, fun w' u => (cells (xq u)).2.1, fun _ => ⟨by omega, by omega, p, hp, q.2.2, fun w' u => u.cell c2 id, by omega, by omega, p', hp', q'.2.2, fun w' u => (cells (xq u)).2.2.1,
    ⟨(equal_spec (lq.ext q10.ext).rd (cells (xq (Upd.refl _ _))).2.2.2.rd (by rw [castL_len]; omega)).mono ?_⟩⟩, fun hne => absurd rfl hne⟩, fun hne => absurd rfl hne⟩
  rintro e w11 ⟨rfl, x11⟩
  refine ⟨_, rfl, fun hbb => absurd rfl (of_decide_eq_false hbb), fun _ => ?_⟩
  have hqn := lq.rd.leni
  rw [castL_len] at hqn
  have x911 := q10.ext.trans x11
  have qlt : ∀ pq, q.2.2.a = some pq → pq.block < w7.heap.size := fun pq hpq => (m3.base pq hpq).2
  have plt : ∀ pq, s7.a = some pq → pq.block < w7.heap.size := fun pq hpq => (M7.own.base pq hpq).2
  refine ⟨fun n w' => ∃ (j : Nat) (ys : List Value), n = (j : Nat) ∧ j ≤ q.2.2.n ∧ Own w' w6.heap.size 3 1 q.2.2 ys ∧ Own w' w6.heap.size 42 3 s7 xs ∧ (∀ (k : Nat) (q : Nat × Nat × Sl) (b : Bk), i + 1 ≤ k → ss[k]? = some q → l[k]? = some b → Own w' w6.heap.size 3 1 q.2.2 (iv (castL b.2.2))) ∧ BM w' w7.heap.size 43 s8 st l ∧ Ext w6 w',
    fun n _ => (q.2.2.n - n).toNat, ⟨0, _, rfl, Nat.zero_le _, lq.ext x911, o9.ext x911, fun k q b hk hq hb => (hl9 k q b (by omega) hq hb).ext x911, M9.ext x911, x9.trans x911⟩, ?_⟩
  rintro _ n w12 ⟨j, ys, rfl, hj, lq12, o12, hl12, M12, x12⟩
  have ej : IntKind.i64.wrap ((j : Int) + 1) = ((j + 1 : Nat) : Int) := by rw [wrap_i64 (by omega) (by omega)]; omega
  rw [ej]
  simp only [Int.toNat_natCast]
  have c12 : w12.cell? ((p.add (i * 3)).add 2) = some (.slice q.2.2.a q.2.2.n q.2.2.c) := by
    obtain ⟨p2, hp2, hcp2⟩ := o12.rd.2 (by omega)
    rw [hp] at hp2; injection hp2 with hp2; subst hp2
    rw [add_add]; exact hcp2 _ _ (by rw [hxs _ (by omega)]; exact f2)
  refine ⟨by omega, by omega, p, hp, q.2.2, c12, fun hlt12 => ?_, fun hge12 => ?_⟩
  · obtain ⟨pq, hpq, _⟩ := lq12.rd.2 (by omega)
    refine ⟨by omega, by omega, p, hp, q.2.2, c12, by omega, by omega, pq, hpq, lq12.canAt hpq (by omega), fun w13 s13 => ?_⟩
    obtain ⟨lq13, u13⟩ := lq12.setAt hpq (by omega) s13
    refine ⟨⟨j + 1, _, rfl, by omega, lq13, o12.upd u13 (fun p2 hp2 e => own_ne o12 lq12 (by decide) p2 pq hp2 hpq e), fun k q2 b2 hk hq2 hb2 => (hl12 k q2 b2 hk hq2 hb2).upd u13 (fun p2 hp2 e => M7.ap i k q q2 (by omega) hq hq2 pq p2 hpq hp2 e.symm), M12.upd u13 (by rintro z rfl; exact qlt pq hpq), x12.fresh u13 (by rintro z rfl; exact (lq12.base pq hpq).1)⟩, by omega⟩
  · refine ⟨by omega, by omega, p, hp, by rw [add_add]; exact o12.canAt hp (by omega), fun w13 s13 => ?_⟩
    rw [add_add] at s13
    obtain ⟨o13, u13⟩ := o12.setAt hp (by omega) s13
    refine ⟨⟨i + 1, _, rfl, by omega, o13, fun z hz => by rw [List.getElem?_set_ne (by omega)]; exact hxs z (by omega), fun k q2 b2 hk hq2 hb2 => (hl12 k q2 b2 hk hq2 hb2).upd u13 (fun p2 hp2 e => own_ne o12 (hl12 k q2 b2 hk hq2 hb2) (by decide) p p2 hp hp2 e.symm), M12.upd u13 (by rintro z rfl; exact plt p hp), x12.fresh u13 (by rintro z rfl; exact (o12.base p hp).1)⟩, by omega⟩
end Go.Proofs.Ytilaeefmfiihlaa.V
