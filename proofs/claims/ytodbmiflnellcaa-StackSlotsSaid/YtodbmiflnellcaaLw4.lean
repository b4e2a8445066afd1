/-
  Law StackSlots: the walk.
-/
import Derived.Test.YtodbmiflnellcaaLw3
namespace Go.Proofs.Ytodbmiflnellcaa.V
open Go Go.RowKit
set_option linter.unusedVariables false
set_option linter.unusedSimpArgs false

theorem slot_ls {f : Fr} {i : Nat} (h : i < f.ls.length) : slotF i f = ((f.ls.getD i 0, 0), f) ∧ getF i f = ((f.ls.getD i 0, 0), f) := by
  constructor
  · rw [slotF, if_pos (by omega), Int.toNat_natCast]
    congr 2
    simp [List.getD_eq_getElem?_getD, List.getElem?_append_left h]
  · rw [getF, if_pos (by omega), Int.toNat_natCast]
theorem slot_ops {f : Fr} {i : Nat} (h1 : f.ls.length ≤ i) (h2 : i < f.ls.length + f.ops.length) : slotF i f = ((f.ops.getD (i - f.ls.length) 0, 0), f) ∧
    peekF ((f.ls.length : Int) + f.ops.length - 1 - i) f = ((f.ops.getD (i - f.ls.length) 0, 0), f) := by
  constructor
  · rw [slotF, if_pos (by omega), Int.toNat_natCast]
    congr 2
    simp [List.getD_eq_getElem?_getD, List.getElem?_append_right h1]
  · rw [peekF, if_pos (by omega)]
    congr 3
    omega
theorem stackslots_walk (w : World) (v0 v1 v2 v3 v4 : Value) (x0 x1 x2 : Int) (x3 x4 : (Par.one (.sl 40 OpR)).T) (h0 : (Par.one (.int .i64)).Is w v0 x0) (h1 : (Par.one (.int .i64)).Is w v1 x1)
    (h2 : (Par.one (.int .i64)).Is w v2 x2) (h3 : (Par.one (.sl 40 OpR)).Is w v3 x3) (h4 : (Par.one (.sl 40 OpR)).Is w v4 x4) :
    Calls Try.prog 4 #[v0, v1, v2, v3, v4] w fun e w' => e = .returned (.bool true) ∧ Ext w w' := by
  obtain ⟨rfl, r0⟩ := h0
  obtain ⟨rfl, r1⟩ := h1
  obtain ⟨rfl, r2⟩ := h2
  obtain ⟨rfl, hcw, hlw, hwk⟩ := op_at h3
  obtain ⟨rfl, hcb, hlb, hbl⟩ := op_at h4
  have r0 := wf_i64 r0
  have r1 := wf_i64 r1
  have r2 := wf_i64 r2
  obtain ⟨work, lw⟩ := x3
  obtain ⟨below, lb⟩ := x4
  dsimp only at *
  refine vc_4 x0 x1 x2 work below _ _ ?_
  simp only [eq_self, true_and, and_true, decide_eq_true_eq, decide_eq_false_iff_not, gd_st, gd_sf, exists_eq_left', exists_eq_left, Option.some.injEq, Sl.eta, Nat.reduceLeDiff, Int.reduceLE, Int.reduceLT, Int.reduceEq, Int.reduceNe, Nat.reduceMul, Nat.reduceAdd, Nat.reduceSub, Int.toNat_natCast, beq_iff_eq, bne_iff_ne, beq_eq_false_iff_ne, bne_eq_false_iff_eq, pick_and, pick_or, Bool.and_eq_true, Bool.or_eq_true, Bool.and_eq_false_iff, Bool.or_eq_false_iff, ne_eq, not_false_eq_true, Bool.not_eq_true', Bool.not_eq_false', reduceCtorEq, Nat.le_refl, Nat.zero_mul, Nat.mul_one, Nat.zero_add, Int.reduceToNat, ones, one, add_mk, Decidable.not_not, cond_true, cond_false, true_implies, false_implies, implies_true, Bool.not_true, Bool.not_false]
  refine ⟨(shown_spec w).mono ?_⟩
  rintro e w1 ⟨rfl, x1'⟩
  refine ⟨_, rfl, ⟨(pick_spec x0 300 w1 r0.1 r0.2 (by omega)).mono ?_⟩⟩
  rintro e w1' ⟨rfl, rfl⟩
  have p0 := pk_lt (c := x0) (n := 300) (by omega)
  refine ⟨_, rfl, ?_⟩
  rw [wrap_i64 (by omega) (by omega)]
  refine ⟨(new_spec _ _).mono ?_⟩
  rintro e w2 ⟨x12, ⟨_, _, g, F, rfl, hs, hF⟩ | ⟨hbad, _⟩⟩
  rotate_left
  · omega
  have hW : (200 + pk x0 300).toNat ≥ 200 := by omega
  generalize (200 + pk x0 300).toNat = W at hs hW
  have l2 : Live w w2 g F W [] := ⟨x1'.trans x12, hs, fun k hk => Nat.le_trans x1'.size (hF k hk)⟩
  refine ⟨_, _, rfl, fun _ => ⟨fun _ => ⟨fun h => absurd rfl h, fun _ => ⟨(pick_spec x1 33 w2 r1.1 r1.2 (by omega)).mono ?_⟩⟩, fun h => by cases h⟩, fun h => by cases h⟩
  rintro e w2' ⟨rfl, rfl⟩
  refine ⟨_, rfl, ⟨(pick_spec x2 25 _ r2.1 r2.2 (by omega)).mono ?_⟩⟩
  rintro e w2'' ⟨rfl, rfl⟩
  have p1 := pk_lt (c := x1) (n := 33) (by omega)
  have p2 := pk_lt (c := x2) (n := 25) (by omega)
  obtain ⟨nn, hnn⟩ : ∃ n : Nat, pk x1 33 = n := ⟨(pk x1 33).toNat, by omega⟩
  obtain ⟨hh, hhh⟩ : ∃ n : Nat, pk x2 25 = n := ⟨(pk x2 25).toNat, by omega⟩
  rw [hnn, hhh]
  rw [hnn] at p1
  rw [hhh] at p2
  refine ⟨_, rfl, fun w' => ∃ F L, Live w w' g F W L ∧ used L ≤ 82, ⟨fun n w' => 0 ≤ n ∧ n ≤ below.n ∧ n ≤ 2 ∧ ∃ F L, Live w w' g F W L ∧ used L ≤ 41 * n.toNat, fun n _ => (2 - n).toNat,
    ⟨by omega, by omega, by omega, F, [], l2, by simp [used]⟩, ?_⟩, ?_⟩
  · rintro _ n w3 ⟨n0, n1, n2, F3, L3, l3, u3⟩
    have hend : ∃ F L, Live w w3 g F W L ∧ used L ≤ 82 := ⟨F3, L3, l3, by omega⟩
    refine ⟨fun hn => ⟨fun hn2 w4 q4 => ⟨fun _ => False, ?_⟩, fun _ => hend⟩, fun _ => hend⟩
    obtain ⟨p, k, a, b, c, x, hp, k0, k1, a0, a1, b0, b1, c0, c1, hcells⟩ := hbl n.toNat (by omega)
    have l4 := l3.qt q4.ext
    refine ⟨n0, hn, p, hp, b, fun w5 u => (hcells w5 (l4.ext.trans u)).2.2.1, n0, hn, p, hp, c, fun w5 u => (hcells w5 (l4.ext.trans u)).2.2.2.1, ⟨(pick_spec b 20 w4 b0 b1 (by omega)).mono ?_⟩⟩
    rintro e w4' ⟨rfl, rfl⟩
    refine ⟨_, rfl, Ext.refl _, ⟨(pick_spec c 20 _ c0 c1 (by omega)).mono ?_⟩⟩
    rintro e w4' ⟨rfl, rfl⟩
    refine ⟨_, rfl, Ext.refl _, ⟨(enter_spec n (pk b 20) (pk c 20) l4.stk).mono ?_⟩⟩
    rintro e w5 ⟨rfl, u5, F5, h5, hF5⟩
    have l5 := l4.step u5 h5 hF5
    have pb := pk_lt (c := b) (n := 20) (by omega)
    have pc := pk_lt (c := c) (n := 20) (by omega)
    refine ⟨_, rfl, n0, hn, p, hp, (x : Nat), (hcells w5 l5.ext).2.2.2.2, ⟨(push_spec x l5.stk).mono ?_⟩⟩
    rintro e w6 ⟨rfl, h6, u6⟩
    have l6 := l5.stay u6 h6
    have husL : used (enterL W L3 n (pk b 20) (pk c 20)).2 ≤ used L3 + 41 := by
      unfold enterL
      split
      · simp only; omega
      · split
        · simp only; omega
        · simp only [used_append, used_one, Fr.size, List.length_replicate]; omega
    have husP : ∀ L, used (onTop L 20 (pushF x)).2 = used L := by
      intro L
      rcases top_at L with rfl | ⟨A, f, rfl⟩
      · rfl
      · rw [onTop_snoc]; simp only [used_append, used_one, (kept_push x f).size]
    refine ⟨_, rfl, ⟨?_, ?_, ?_, F5, _, l6, ?_⟩, ?_⟩
    · rw [wrap_i64 (by omega) (by omega)]; omega
    · rw [wrap_i64 (by omega) (by omega)]; omega
    · rw [wrap_i64 (by omega) (by omega)]; omega
    · rw [husP, wrap_i64 (by omega) (by omega)]; omega
    · dsimp only
      rw [wrap_i64 (by omega) (by omega)]; omega
  rintro _ w3 ⟨F3, L, l3, u3⟩
  refine ⟨(depth_spec l3.stk).mono ?_⟩
  rintro e w4 ⟨rfl, q4⟩
  have l4 := l3.qt q4.ext
  have hdep : L.length ≤ 82 := Nat.le_trans (StkAt.snoc_len L) u3
  refine ⟨_, rfl, ⟨(enter_spec 9 nn hh l4.stk).mono ?_⟩⟩
  rintro e w5 ⟨rfl, u5, F5, h5, hF5⟩
  have l5 := l4.step u5 h5 hF5
  rw [enterL, if_neg (by omega), if_neg (by omega)] at l5 ⊢
  simp only [Int.toNat_natCast] at l5
  generalize hf0 : (⟨(9 : Int).toNat, 0, hh, List.replicate nn 0, []⟩ : Fr) = f0 at l5
  have e1 : f0.fn = 9 := by rw [← hf0]; rfl
  have e2 : f0.ls.length = nn := by rw [← hf0]; simp
  have e3 : f0.hi = hh := by rw [← hf0]
  have top5 : TopAt w w5 g W L f0 := ⟨F5, f0, l5, rfl, rfl, rfl⟩
  refine ⟨_, rfl, fun h => absurd rfl h, fun _ => ⟨fun n w' => 0 ≤ n ∧ n ≤ work.n ∧ n ≤ 100 ∧ TopAt w w' g W L f0, fun n _ => (100 - n).toNat, ⟨by omega, by omega, by omega, top5⟩, ?_⟩⟩
  rintro _ n w6 ⟨n0, n1, n2, top6⟩
  have fin : CallW Try.prog 20 #[.pointer (some ⟨g, 0, none⟩), .int .i64 (IntKind.i64.wrap ((L.length : Nat) + 1))] w6 fun e w_1 => ∃ (n n_5 : Int) (s s_1 : Sl) (b : Bool), e = .returned (.tuple #[.agg #[.int .i64 n, .int .i64 n_5, .slice s.a s.n s.c, .slice s_1.a s_1.n s_1.c], .bool b]) ∧
      ∀ (w1 : World), NewW w_1 (Obj.cells #[.int .i64 0, .int .i64 0, .slice none 0 0, .slice none 0 0] 49) w1 → len' [.int .i64 n, .int .i64 n_5, .slice s.a s.n s.c, .slice s_1.a s_1.n s_1.c] = 4 ∧ CanSet w1 ⟨w_1.heap.size, 0, none⟩ 4 ∧
      ∀ (w1_1 : World), SetW w1 ⟨w_1.heap.size, 0, none⟩ [.int .i64 n, .int .i64 n_5, .slice s.a s.n s.c, .slice s_1.a s_1.n s_1.c] w1_1 → Ending.returned (.bool !b) = .returned (.bool true) ∧ Ext w w1_1 := by
    obtain ⟨F6, f, l6, _⟩ := top6
    rw [wrap_i64 (by omega) (by omega)]
    refine ⟨(frameT_spec _ l6.stk).mono ?_⟩
    rintro e w7 ⟨x7, ⟨_, rfl⟩ | ⟨A, f', C, a, b, hL, hk, _⟩⟩
    · refine ⟨_, _, ⟨none, 0, 0⟩, ⟨none, 0, 0⟩, false, rfl, fun w8 n8 => ⟨rfl, (Blk.new n8).canSetN 0 4 (by simp), fun w9 hs => ⟨rfl, ?_⟩⟩⟩
      exact (l6.ext.trans x7).trans (n8.ext.fresh hs.upd (by rintro i rfl; exact Nat.le_refl _))
    · have := congrArg List.length hL
      simp at this
      omega
  refine ⟨fun hn => ⟨fun hn2 => ⟨fun w' => TopAt w w' g W L f0, ?_, ?_⟩, fun _ => fin⟩, fun _ => fin⟩
  · obtain ⟨p, k, a, b, c, x, hp, k0, k1, a0, a1, b0, b1, c0, c1, hcells⟩ := hwk n.toNat (by omega)
    have cc := hcells w6 top6.ext
    refine ⟨n0, hn, p, hp, k, cc.1, ⟨(pick_spec k 4 w6 k0 k1 (by omega)).mono ?_⟩⟩
    rintro e w6' ⟨rfl, rfl⟩
    refine ⟨_, rfl, fun _ => ⟨n0, hn, p, hp, _, cc.2.2.2.2, ⟨(top_push x top6).mono ?_⟩⟩, fun _ => ⟨fun _ => ⟨(top_pop top6).mono ?_⟩, fun _ => ⟨fun _ w7 q7 => ⟨fun _ => False, n0, hn, p, hp, a, fun w8 u => (hcells w8 ((top6.ext.trans q7.ext).trans u)).2.1, n0, hn, p, hp, (x : Nat), fun w8 u => (hcells w8 ((top6.ext.trans q7.ext).trans u)).2.2.2.2, ?_⟩,
      fun _ w7 q7 => ⟨fun _ => False, n0, hn, p, hp, b, fun w8 u => (hcells w8 ((top6.ext.trans q7.ext).trans u)).2.2.1, n0, hn, p, hp, (x : Nat), fun w8 u => (hcells w8 ((top6.ext.trans q7.ext).trans u)).2.2.2.2, ?_⟩⟩⟩⟩
    · exact fun e w' h => h
    · exact fun e w' h => h
    · rw [wrap_i64 (by omega) (by omega)]
      refine ⟨(pick_spec a _ w7 a0 a1 (by omega)).mono ?_⟩
      rintro e w7' ⟨rfl, rfl⟩
      exact ⟨_, rfl, Ext.refl _, ⟨(top_set _ x (top6.qt q7.ext)).mono fun e w' h => h⟩⟩
    · rw [wrap_i64 (n := (nn : Int) + hh) (by omega) (by omega), wrap_i64 (by omega) (by omega)]
      refine ⟨(pick_spec b _ w7 b0 b1 (by omega)).mono ?_⟩
      rintro e w7' ⟨rfl, rfl⟩
      exact ⟨_, rfl, Ext.refl _, ⟨(top_setSlot _ x (top6.qt q7.ext)).mono fun e w' h => h⟩⟩
  rintro _ w7 top7
  obtain ⟨F7, f, l7, kp⟩ := top7
  refine ⟨(top_frame l7).mono ?_⟩
  rintro e w8 ⟨x8, a, b, hok, rfl, td⟩
  have hfl : f.ls.length = nn := kp.ls.trans e2
  have hfo := hok.ops
  have hfh : f.hi = hh := kp.hi.trans e3
  refine ⟨(f.fn : Nat), (f.at_ : Nat), a, b, true, rfl, fun w9 n9 => ⟨rfl, (Blk.new n9).canSetN 0 4 (by simp), fun w10 hs w11 q11 => ⟨fun _ => False, fun _ => ?_, fun h => by cases h⟩⟩⟩
  have hb10 := hs.blk (Blk.new n9)
  simp only [setsL, List.set_cons_zero, List.set_cons_succ] at hb10
  have hb11 := hb10.ext q11.ext
  have x811 : Ext w8 w11 := (n9.ext.fresh hs.upd (by rintro i rfl; exact Nat.le_refl _)).trans q11.ext
  have l11 := (l7.qt x8).qt x811
  have la := td.ls.ext x811
  have lb' := td.ops.ext x811
  have han := la.rd.lenu
  have hbn := lb'.rd.lenu
  refine ⟨(f.fn : Nat), fun w' u => (hb11.ext u).cell 0, fun _ => ⟨a, fun w' u => (hb11.ext u).cell 2, fun _ => ⟨b, fun w' u => (hb11.ext u).cell 3, ⟨(height_spec l11.stk).mono ?_⟩⟩, fun h => by omega⟩, fun h => ?_⟩
  rotate_left
  · rw [kp.fn, e1] at h; exact absurd rfl h
  rintro e w12 ⟨rfl, q12⟩
  rw [onTop_snoc]
  dsimp only
  have l12 := l11.qt q12.ext
  have hb12 := hb11.ext q12.ext
  have la2 := la.ext q12.ext
  have lb2 := lb'.ext q12.ext
  refine ⟨_, rfl, q12.ext, fun _ => ⟨b, fun w' u => (hb12.ext u).cell 3, fun h => by omega, fun _ => ⟨fun j w' => 0 ≤ j ∧ j ≤ nn + f.ops.length + 1 ∧ Ext w12 w', fun j _ => (nn + f.ops.length + 1 - j).toNat, ⟨by omega, by omega, Ext.refl _⟩, ?_⟩⟩, fun h => by omega⟩
  rintro _ j w13 ⟨j0, j1, x13⟩
  have l13 := l12.qt x13
  refine ⟨(height_spec l13.stk).mono ?_⟩
  rintro e w14 ⟨rfl, q14⟩
  rw [onTop_snoc]
  dsimp only
  have l14 := l13.qt q14.ext
  refine ⟨_, rfl, fun hj => ?_, fun hj => ?_⟩
  rotate_left
  · rw [wrap_i64 (by omega) (by omega)]
    exact ⟨⟨by omega, by omega, by omega, F7, f, l14, kp⟩, by omega⟩
  rw [wrap_i64 (by omega) (by omega)] at hj
  obtain ⟨i, rfl⟩ : ∃ i : Nat, j = i := ⟨j.toNat, by omega⟩
  refine ⟨(slot_spec (L.length : Nat) i l14.stk).mono ?_⟩
  rintro e w15 ⟨rfl, x15⟩
  rw [onAt_in]
  dsimp only
  have l15 := l14.qt x15
  have x1215 : Ext w12 w15 := (x13.trans q14.ext).trans x15
  have hb15 := hb12.ext x1215
  have next : ∀ w', Ext w15 w' → (0 ≤ IntKind.i64.wrap ((i : Int) + 1) ∧ IntKind.i64.wrap ((i : Int) + 1) ≤ nn + f.ops.length + 1 ∧ Ext w12 w') ∧ (nn + f.ops.length + 1 - IntKind.i64.wrap ((i : Int) + 1)).toNat < (nn + f.ops.length + 1 - (i : Int)).toNat := by
    intro w' x
    rw [wrap_i64 (by omega) (by omega)]
    exact ⟨⟨by omega, by omega, x1215.trans x⟩, by omega⟩
  refine ⟨_, _, rfl, fun hlt => ?_, fun hge => ⟨(height_spec l15.stk).mono ?_⟩⟩
  · simp only [hb15.cell, List.getElem?_cons_zero, List.getElem?_cons_succ, ex_sl, Value.int.injEq, Value.bool.injEq, Value.pointer.injEq, Value.string.injEq, eq_self, true_and, and_true, decide_eq_true_eq, decide_eq_false_iff_not, gd_st, gd_sf, exists_eq_left', exists_eq_left, Option.some.injEq, Sl.eta, Nat.reduceLeDiff, Int.reduceLE, Int.reduceLT, Int.reduceEq, Int.reduceNe, Nat.reduceMul, Nat.reduceAdd, Nat.reduceSub, Int.toNat_natCast, beq_iff_eq, bne_iff_ne, beq_eq_false_iff_ne, bne_eq_false_iff_eq, pick_and, pick_or, Bool.and_eq_true, Bool.or_eq_true, Bool.and_eq_false_iff, Bool.or_eq_false_iff, ne_eq, not_false_eq_true, Bool.not_eq_true', Bool.not_eq_false', reduceCtorEq, Nat.le_refl, Nat.zero_mul, Nat.mul_one, Nat.zero_add, Int.reduceToNat, ones, one, add_mk, Decidable.not_not, cond_true, cond_false, true_implies, false_implies, implies_true, Bool.not_true, Bool.not_false]
    obtain ⟨p, x, hp, hx, hc⟩ := (la2.ext x1215).rd.word i (by omega)
    rw [Nat.mul_one] at hc
    have hlt' : i < f.ls.length := by omega
    have hx' : f.ls.getD i 0 = x := by rw [List.getD_eq_getElem?_getD, hx]; rfl
    rw [(slot_ls hlt').1, hx']
    refine ⟨j0, by omega, p, hp, _, hc, ⟨(get_spec i l15.stk).mono ?_⟩⟩
    rintro e w16 ⟨rfl, q16⟩
    rw [onTop_snoc, (slot_ls hlt').2, hx']
    exact ⟨_, _, rfl, fun _ => ⟨fun _ => ⟨fun h => absurd rfl h, fun _ => next _ q16.ext⟩, fun h => absurd rfl h⟩, fun h => absurd rfl h⟩
  · rintro e w16 ⟨rfl, q16⟩
    rw [onTop_snoc]
    dsimp only
    have l16 := l15.qt q16.ext
    have hb16 := hb15.ext q16.ext
    have hge' : f.ls.length ≤ i := by omega
    refine ⟨_, rfl, fun hlt => ?_, fun hge2 => ?_⟩
    · rw [wrap_i64 (by omega) (by omega)] at hlt
      have hlt' : i < f.ls.length + f.ops.length := by omega
      simp only [hb16.cell, List.getElem?_cons_zero, List.getElem?_cons_succ, ex_sl, Value.int.injEq, Value.bool.injEq, Value.pointer.injEq, Value.string.injEq, eq_self, true_and, and_true, decide_eq_true_eq, decide_eq_false_iff_not, gd_st, gd_sf, exists_eq_left', exists_eq_left, Option.some.injEq, Sl.eta, Nat.reduceLeDiff, Int.reduceLE, Int.reduceLT, Int.reduceEq, Int.reduceNe, Nat.reduceMul, Nat.reduceAdd, Nat.reduceSub, Int.toNat_natCast, beq_iff_eq, bne_iff_ne, beq_eq_false_iff_ne, bne_eq_false_iff_eq, pick_and, pick_or, Bool.and_eq_true, Bool.or_eq_true, Bool.and_eq_false_iff, Bool.or_eq_false_iff, ne_eq, not_false_eq_true, Bool.not_eq_true', Bool.not_eq_false', reduceCtorEq, Nat.le_refl, Nat.zero_mul, Nat.mul_one, Nat.zero_add, Int.reduceToNat, ones, one, add_mk, Decidable.not_not, cond_true, cond_false, true_implies, false_implies, implies_true, Bool.not_true, Bool.not_false]
      rw [wrap_i64 (n := (i : Int) - nn) (by omega) (by omega)]
      obtain ⟨p, x, hp, hx, hc⟩ := ((lb2.ext x1215).ext q16.ext).rd.word (i - nn) (by omega)
      rw [Nat.mul_one] at hc
      have hx' : f.ops.getD (i - f.ls.length) 0 = x := by rw [List.getD_eq_getElem?_getD, hfl, hx]; rfl
      rw [(slot_ops hge' hlt').1, hx', show ((i : Int) - nn).toNat = i - nn by omega]
      refine ⟨by omega, by omega, p, hp, _, hc, ⟨(height_spec l16.stk).mono ?_⟩⟩
      rintro e w17 ⟨rfl, q17⟩
      rw [onTop_snoc]
      dsimp only
      have l17 := l16.qt q17.ext
      refine ⟨_, rfl, ?_⟩
      rw [wrap_i64 (n := (nn : Int) + _) (by omega) (by omega), wrap_i64 (n := _ - 1) (by omega) (by omega), wrap_i64 (n := _ - (i : Int)) (by omega) (by omega)]
      refine ⟨(peek_spec _ l17.stk).mono ?_⟩
      rintro e w18 ⟨rfl, x18⟩
      rw [onTop_snoc, show ((nn : Int) + f.ops.length - 1 - i) = (f.ls.length : Int) + f.ops.length - 1 - i by omega, (slot_ops hge' hlt').2, hx']
      exact ⟨_, _, rfl, fun _ => ⟨fun _ => ⟨fun h => absurd rfl h, fun _ => next _ ((q16.ext.trans q17.ext).trans x18)⟩, fun h => absurd rfl h⟩, fun h => absurd rfl h⟩
    · rw [wrap_i64 (by omega) (by omega)] at hge2
      have : slotF (i : Int) f = ((0, 20), f) := by rw [slotF, if_neg (by omega)]
      rw [this]
      exact ⟨fun _ => ⟨fun h => absurd rfl h, fun _ => next _ q16.ext⟩, fun h => absurd rfl h⟩
end Go.Proofs.Ytodbmiflnellcaa.V
