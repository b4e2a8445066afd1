/-
  Law StackKeeps: the walk.
-/
import Derived.Test.YtodbmiflnellcaaLw3
namespace Go.Proofs.Ytodbmiflnellcaa.V
open Go Go.RowKit
set_option linter.unusedVariables false
set_option linter.unusedSimpArgs false

section
variable {w0 w w' : World} {g words : Nat} {F : Nat → Prop} {L0 : List Fr} {f : Fr}
theorem topx_push (x : Nat) (h : Live w0 w g F words (L0 ++ [f])) : Calls Try.prog 12 #[.pointer (some ⟨g, 0, none⟩), .int .u64 (x : Nat)] w fun e w' =>
    ∃ n, e = .returned (.int .i64 n) ∧ ∃ f', Live w0 w' g F words (L0 ++ [f']) ∧ Kept f f' ∧ Upd F w w' := by
  refine (push_spec x h.stk).mono ?_
  rintro e w1 ⟨rfl, hs, hu⟩
  rw [onTop_snoc] at hs
  exact ⟨_, rfl, _, h.stay hu hs, kept_push x f, hu⟩
theorem topx_pop (h : Live w0 w g F words (L0 ++ [f])) : Calls Try.prog 14 #[.pointer (some ⟨g, 0, none⟩)] w fun e w' =>
    ∃ n m, e = .returned (.tuple #[.int .u64 n, .int .i64 m]) ∧ ∃ f', Live w0 w' g F words (L0 ++ [f']) ∧ Kept f f' ∧ Upd F w w' := by
  refine (pop_spec h.stk).mono ?_
  rintro e w1 ⟨rfl, hs, hu⟩
  rw [onTop_snoc] at hs
  exact ⟨_, _, rfl, _, h.stay hu hs, kept_pop f, hu⟩
theorem topx_set (i : Int) (x : Nat) (h : Live w0 w g F words (L0 ++ [f])) : Calls Try.prog 13 #[.pointer (some ⟨g, 0, none⟩), .int .i64 i, .int .u64 (x : Nat)] w fun e w' =>
    ∃ n, e = .returned (.int .i64 n) ∧ ∃ f', Live w0 w' g F words (L0 ++ [f']) ∧ Kept f f' ∧ Upd F w w' := by
  refine (set_spec i x h.stk).mono ?_
  rintro e w1 ⟨rfl, hs, hu⟩
  rw [onTop_snoc] at hs
  exact ⟨_, rfl, _, h.stay hu hs, kept_set i x f, hu⟩
theorem topx_goto (a : Int) (h : Live w0 w g F words (L0 ++ [f])) : Calls Try.prog 15 #[.pointer (some ⟨g, 0, none⟩), .int .i64 a] w fun e w' =>
    ∃ n, e = .returned (.int .i64 n) ∧ ∃ f', Live w0 w' g F words (L0 ++ [f']) ∧ Kept f f' ∧ Upd F w w' := by
  refine (goto_spec a h.stk).mono ?_
  rintro e w1 ⟨rfl, hs, hu⟩
  rw [onTop_snoc] at hs
  exact ⟨_, rfl, _, h.stay hu hs, kept_goto a f, hu⟩
end

theorem starts_get (L : List Fr) : ∀ (o i : Nat), i < L.length → (starts o L)[i]? = some ((o + used (L.take i) : Nat) : Int) := by
  induction L with
  | nil => intro o i h; simp at h
  | cons f r ih =>
    intro o i h
    cases i with
    | zero => simp [starts, used]
    | succ i =>
      simp only [List.length_cons] at h
      rw [starts, List.getElem?_cons_succ, ih _ _ (by omega), List.take_succ_cons, used, Nat.add_assoc]
abbrev Ts := List (Sl × List Tr)
def tsv (T : Ts) : List Value := T.map fun x => .slice x.1.a x.1.n x.1.c
/-- what was told and reckoned ahead of each frame -/
structure AH (w : World) (B : Nat) (F : Nat → Prop) (s s1 : Sl) (T : Ts) (L : List Fr) : Prop where
  row : Own w B 31 1 s (tsv T)
  so : s.off F
  len : T.length = L.length
  tl : ∀ i x, T[i]? = some x → x.2.map (·.1) = L.take i ∧ TL w 0 F x.1 x.2
  us : Own w B 3 1 s1 (iv (starts 0 L))
  uo : s1.off F
section
variable {w w' : World} {B : Nat} {F F' S : Nat → Prop} {s s1 : Sl} {T : Ts} {L : List Fr} {T' : List Tr}
theorem AH.step (h : AH w B F s s1 T L) (u : Upd F w w') (hF : ∀ k, F' k → F k ∨ w.heap.size ≤ k) : AH w' B F' s s1 T L := by
  refine ⟨h.row.upd u h.so, fun p hp hk => ?_, h.len, fun i x hi => ⟨(h.tl i x hi).1, (h.tl i x hi).2.step u hF⟩, h.us.upd u h.uo, fun p hp hk => ?_⟩
  · rcases hF _ hk with h' | h'
    · exact h.so p hp h'
    · have := (h.row.base p hp).2; omega
  · rcases hF _ hk with h' | h'
    · exact h.uo p hp h'
    · have := (h.us.base p hp).2; omega
theorem AH.stay (h : AH w B F s s1 T L) (u : Upd F w w') : AH w' B F s s1 T L := h.step u fun _ => .inl
theorem AH.ext (h : AH w B F s s1 T L) (u : Ext w w') : AH w' B F s s1 T L := h.stay (u.mono fun _ _ _ => not_false)
theorem TL.upd (h : TL w B F s T') (u : Upd S w w') (h1 : s.off S) (h2 : ∀ t ∈ T', t.2.1.off S ∧ t.2.2.off S) : TL w' B F s T' :=
  ⟨h.row.upd u h1, h.off, fun t ht => (h.fr t ht).upd u (h2 t ht).1 (h2 t ht).2⟩
/-- a row of another type, none of whose block is told -/
theorem TL.updO {e z B' : Nat} {r : Sl} {xs : List Value} (h : TL w B F s T') (ho : Own w B' e z r xs) (h1 : e ≠ 49) (h2 : e ≠ 34)
    (u : Upd (fun k => ∃ p, r.a = some p ∧ k = p.block) w w') : TL w' B F s T' :=
  h.upd u (fun p hp ⟨q, hq, he⟩ => own_ne ho h.row h1 q p hq hp he.symm)
    fun t ht => ⟨fun p hp ⟨q, hq, he⟩ => own_ne ho (h.fr t ht).ls h2 q p hq hp he.symm, fun p hp ⟨q, hq, he⟩ => own_ne ho (h.fr t ht).ops h2 q p hq hp he.symm⟩
end
theorem take_eq {T : List Tr} {L : List Fr} {i : Nat} {t : Tr} (h : T.map (·.1) = L) (hi : T[i]? = some t) : L[i]? = some t.1 := by
  rw [← h, List.getElem?_map, hi]; rfl
theorem tsv_ones (T : Ts) : ∀ v ∈ tsv T, one v := by
  intro v hv
  obtain ⟨x, _, rfl⟩ := List.mem_map.1 hv
  trivial

theorem stackkeeps_walk (w : World) (v0 v1 v2 : Value) (x0 : Int) (x1 x2 : (Par.one (.sl 40 OpR)).T) (h0 : (Par.one (.int .i64)).Is w v0 x0)
    (h1 : (Par.one (.sl 40 OpR)).Is w v1 x1) (h2 : (Par.one (.sl 40 OpR)).Is w v2 x2) :
    Calls Try.prog 3 #[v0, v1, v2] w fun e w' => e = .returned (.bool true) ∧ Ext w w' := by
  obtain ⟨rfl, r0⟩ := h0
  obtain ⟨rfl, hcf, hlf, hfr⟩ := op_at h1
  obtain ⟨rfl, hcw, hlw, hwk⟩ := op_at h2
  have r0 := wf_i64 r0
  obtain ⟨frames, lf⟩ := x1
  obtain ⟨work, lw⟩ := x2
  dsimp only at *
  refine vc_3 x0 frames work _ _ ?_
  simp only [eq_self, true_and, and_true, decide_eq_true_eq, decide_eq_false_iff_not, gd_st, gd_sf, exists_eq_left', exists_eq_left, Option.some.injEq, Sl.eta, Nat.reduceLeDiff, Int.reduceLE, Int.reduceLT, Int.reduceEq, Int.reduceNe, Nat.reduceMul, Nat.reduceAdd, Nat.reduceSub, Int.toNat_natCast, beq_iff_eq, bne_iff_ne, beq_eq_false_iff_ne, bne_eq_false_iff_eq, pick_and, pick_or, Bool.and_eq_true, Bool.or_eq_true, Bool.and_eq_false_iff, Bool.or_eq_false_iff, ne_eq, not_false_eq_true, Bool.not_eq_true', Bool.not_eq_false', reduceCtorEq, Nat.le_refl, Nat.zero_mul, Nat.mul_one, Nat.zero_add, Int.reduceToNat, ones, one, add_mk, Decidable.not_not, cond_true, cond_false, true_implies, false_implies, implies_true, Bool.not_true, Bool.not_false]
  refine ⟨(shown_spec w).mono ?_⟩
  rintro e w1 ⟨rfl, x1'⟩
  refine ⟨_, rfl, ⟨(pick_spec x0 3000 w1 r0.1 r0.2 (by omega)).mono ?_⟩⟩
  rintro e w1' ⟨rfl, rfl⟩
  have p0 := pk_lt (c := x0) (n := 3000) (by omega)
  refine ⟨_, rfl, ⟨(new_spec _ _).mono ?_⟩⟩
  rintro e w2 ⟨x12, ⟨_, _, g, F, rfl, hs, hF⟩ | ⟨hbad, _⟩⟩
  rotate_left
  · omega
  obtain ⟨W, hWp⟩ : ∃ W : Nat, pk x0 3000 = W := ⟨(pk x0 3000).toNat, by omega⟩
  rw [hWp, Int.toNat_natCast] at hs
  rw [hWp] at p0
  have l2 : Live w w2 g F W [] := ⟨x1'.trans x12, hs, fun k hk => Nat.le_trans x1'.size (hF k hk)⟩
  refine ⟨_, _, rfl, fun _ => ⟨fun _ => ⟨fun h => absurd rfl h, fun _ => ?_⟩, fun h => by cases h⟩, fun h => by cases h⟩
  refine ⟨fun s s1 w' => ∃ F T L, Live w w' g F W L ∧ L.length ≤ 60 ∧ AH w' w.heap.size F s s1 T L,
    ⟨fun s s1 n w' => 0 ≤ n ∧ n ≤ frames.n ∧ n ≤ 60 ∧ ∃ F T L, Live w w' g F W L ∧ L.length ≤ n.toNat ∧ AH w' w.heap.size F s s1 T L, fun _ _ n _ => (60 - n).toNat,
      ⟨by omega, by omega, by omega, F, [], [], l2, by simp, ⟨Own.nil .., fun p hp => (by cases hp), rfl, fun i x hi => (by simp at hi), Own.nil .., fun p hp => (by cases hp)⟩⟩, ?_⟩, ?_⟩
  · rintro _ s s1 n w3 ⟨n0, n1, n2, F3, T3, L3, l3, hL3, ah3⟩
    have hend : ∃ F T L, Live w w3 g F W L ∧ L.length ≤ 60 ∧ AH w3 w.heap.size F s s1 T L := ⟨F3, T3, L3, l3, by omega, ah3⟩
    refine ⟨fun hn => ⟨fun hn2 => ⟨(told_spec l3.stk).mono ?_⟩, fun _ => hend⟩, fun _ => hend⟩
    rintro e w4 ⟨s2, T0, rfl, hT0, tl4, x34⟩
    have l4 := l3.qt x34
    refine ⟨_, rfl, ⟨(used_spec l4.stk).mono ?_⟩⟩
    rintro e w5 ⟨rfl, q5⟩
    have l5 := l4.qt q5.ext
    have tl5 := tl4.ext q5.ext
    have ah5 := (ah3.ext x34).ext q5.ext
    obtain ⟨p, k, a, b, c, x, hp, k0, k1, a0, a1, b0, b1, c0, c1, hcells⟩ := hfr n.toNat (by omega)
    refine ⟨_, rfl, n0, hn, p, hp, b, (hcells w5 l5.ext).2.2.1, ⟨(pick_spec b 33 w5 b0 b1 (by omega)).mono ?_⟩⟩
    rintro e w5' ⟨rfl, rfl⟩
    refine ⟨_, rfl, n0, hn, p, hp, c, (hcells _ l5.ext).2.2.2.1, ⟨(pick_spec c 25 _ c0 c1 (by omega)).mono ?_⟩⟩
    rintro e w5' ⟨rfl, rfl⟩
    refine ⟨_, rfl, n0, hn, p, hp, a, (hcells _ l5.ext).2.1, ⟨(pick_spec a 50 _ a0 a1 (by omega)).mono ?_⟩⟩
    rintro e w5' ⟨rfl, rfl⟩
    have pa := pk_lt (c := a) (n := 50) (by omega)
    have pb := pk_lt (c := b) (n := 33) (by omega)
    have pc := pk_lt (c := c) (n := 25) (by omega)
    obtain ⟨fn, hfn⟩ : ∃ m : Nat, pk a 50 = m := ⟨(pk a 50).toNat, by omega⟩
    obtain ⟨lo, hlo⟩ : ∃ m : Nat, pk b 33 = m := ⟨(pk b 33).toNat, by omega⟩
    obtain ⟨hi, hhi⟩ : ∃ m : Nat, pk c 25 = m := ⟨(pk c 25).toNat, by omega⟩
    rw [hfn] at pa ⊢
    rw [hlo] at pb ⊢
    rw [hhi] at pc ⊢
    have hfit : used L3 ≤ W := by
      obtain ⟨gr, fs, cs, hh, _⟩ := l5.stk
      exact hh.fit
    have hwr : IntKind.i64.wrap (IntKind.i64.wrap (IntKind.i64.wrap ((used L3 : Nat) + 3) + lo) + hi) = (used L3 + 3 + lo + hi : Nat) := by
      rw [wrap_i64 (n := ((used L3 : Nat) : Int) + 3) (by omega) (by omega), wrap_i64 (n := _ + (lo : Int)) (by omega) (by omega), wrap_i64 (by omega) (by omega)]
      push_cast; rfl
    rw [hwr]
    refine ⟨_, rfl, ⟨(enter_spec fn lo hi l5.stk).mono ?_⟩⟩
    rintro e w6 ⟨rfl, u6, F6, h6, hF6⟩
    have l6 := l5.step u6 h6 hF6
    have ah6 := ah5.step u6 hF6
    have tl6 := tl5.step u6 hF6
    refine ⟨_, rfl, fun w' => w' = w6, ⟨(pick_spec x0 3000 w6 r0.1 r0.2 (by omega)).mono ?_⟩, ?_⟩
    · rintro e w6' ⟨rfl, rfl⟩
      refine ⟨_, rfl, fun _ => ⟨fun h1 => ⟨fun h2 => ?_, fun _ => rfl⟩, fun _ => rfl⟩, fun hne => ?_⟩
      · exfalso
        unfold enterL at h1 h2
        rw [if_neg (by omega)] at h1 h2
        split at h1
        · rename_i hc
          rw [if_pos hc] at h2
          exact h2 rfl
        · exact h1 rfl
      · exfalso
        apply hne
        rw [hWp]
        unfold enterL
        rw [if_neg (by omega)]
        by_cases hc : (W : Int) < used L3 + 3 + lo + hi
        · rw [if_pos hc]
          simp
          omega
        · rw [if_neg hc]
          simp
          omega
    rintro _ w7 rfl
    unfold enterL at l6 ⊢
    rw [if_neg (by omega)] at l6 ⊢
    by_cases hc : (W : Int) < used L3 + 3 + lo + hi
    · rw [if_pos hc] at l6 ⊢
      refine ⟨fun _ => ⟨⟨?_, ?_, ?_, F6, T3, L3, l6, ?_, ah6⟩, ?_⟩, fun h => by simp at h⟩
      all_goals (try dsimp only)
      all_goals rw [wrap_i64 (by omega) (by omega)]
      all_goals omega
    rw [if_neg hc] at l6 ⊢
    refine ⟨fun h => absurd rfl h, fun _ => ?_⟩
    simp only [Int.toNat_natCast] at l6
    generalize hf0 : (⟨fn, 0, hi, List.replicate lo 0, []⟩ : Fr) = f0 at l6
    have e2 : f0.ls.length = lo := by rw [← hf0]; simp
    have e3 : f0.hi = hi := by rw [← hf0]
    refine ⟨fun n w' => 0 ≤ n ∧ n ≤ work.n ∧ ∃ f, Live w w' g F6 W (L3 ++ [f]) ∧ Kept f0 f ∧ AH w' w.heap.size F6 s s1 T3 L3 ∧ TL w' 0 F6 s2 T0, fun n _ => (work.n - n).toNat,
      ⟨by omega, by omega, f0, l6, ⟨rfl, rfl, rfl⟩, ah6, tl6⟩, ?_⟩
    rintro _ i w8 ⟨i0, i1, f, l8, kf, ah8, tl8⟩
    refine ⟨fun hi8 => ?_, fun hi8 => ⟨(told_spec l8.stk).mono ?_⟩⟩
    · obtain ⟨p', k', a', b', c', x', hp', k0', k1', a0', a1', b0', b1', c0', c1', hcells'⟩ := hwk i.toNat (by omega)
      have cc := hcells' w8 l8.ext
      have next : ∀ w' f', Live w w' g F6 W (L3 ++ [f']) → Kept f f' → Upd F6 w8 w' →
          (0 ≤ IntKind.i64.wrap (i + 1) ∧ IntKind.i64.wrap (i + 1) ≤ work.n ∧ ∃ f, Live w w' g F6 W (L3 ++ [f]) ∧ Kept f0 f ∧ AH w' w.heap.size F6 s s1 T3 L3 ∧ TL w' 0 F6 s2 T0) ∧ (work.n - IntKind.i64.wrap (i + 1)).toNat < (work.n - i).toNat := by
        intro w' f' l' k' u'
        rw [wrap_i64 (by omega) (by omega)]
        exact ⟨⟨by omega, by omega, f', l', kf.trans k', ah8.stay u', tl8.step u' fun _ => .inl⟩, by omega⟩
      have kw : -9223372036854775808 ≤ IntKind.i64.wrap (k' + n) ∧ IntKind.i64.wrap (k' + n) ≤ 9223372036854775807 := by rw [wrap_i64']; omega
      refine ⟨i0, hi8, p', hp', k', cc.1, ⟨(pick_spec _ 4 w8 kw.1 kw.2 (by omega)).mono ?_⟩⟩
      rintro e w8' ⟨rfl, rfl⟩
      refine ⟨_, rfl, fun _ => ⟨i0, hi8, p', hp', _, cc.2.2.2.2, ⟨(topx_push x' l8).mono ?_⟩⟩, fun _ => ⟨fun _ w9 q9 => ⟨fun _ => False, i0, hi8, p', hp', a', fun w' u => (hcells' w' ((l8.ext.trans q9.ext).trans u)).2.1, i0, hi8, p', hp', (x' : Nat), fun w' u => (hcells' w' ((l8.ext.trans q9.ext).trans u)).2.2.2.2, ⟨(topx_set a' x' (l8.qt q9.ext)).mono ?_⟩⟩,
        fun _ => ⟨fun _ => ⟨(topx_pop l8).mono ?_⟩, fun _ => ⟨i0, hi8, p', hp', a', cc.2.1, ⟨(pick_spec a' 300 _ a0' a1' (by omega)).mono ?_⟩⟩⟩⟩⟩
      · rintro e w9 ⟨m, rfl, f', l', k', u'⟩
        exact ⟨_, rfl, next _ f' l' k' u'⟩
      · rintro e w10 ⟨m, rfl, f', l', k', u'⟩
        exact ⟨_, rfl, next _ f' l' k' (q9.ext.upd u')⟩
      · rintro e w9 ⟨m, m', rfl, f', l', k', u'⟩
        exact ⟨_, _, rfl, next _ f' l' k' u'⟩
      · rintro e w8' ⟨rfl, rfl⟩
        refine ⟨_, rfl, ⟨(topx_goto _ l8).mono ?_⟩⟩
        rintro e w9 ⟨m, rfl, f', l', k', u'⟩
        exact ⟨_, rfl, next _ f' l' k' u'⟩
    rintro e w9 ⟨s3, T9, rfl, hT9, tl9, x9⟩
    have l9 := l8.qt x9
    have ah9 := ah8.ext x9
    have tl0 := tl8.ext x9
    have hT0l : T0.length = L3.length := by rw [← hT0]; simp
    have hT9l : T9.length = L3.length + 1 := by have := congrArg List.length hT9; simpa using this
    have hs2 := tl0.len
    refine ⟨_, rfl, ⟨(alike_spec tl0 tl9 s2.n (by omega) (by omega) (fun i t t' hi h1 h2 => ?_) (by omega)).mono ?_⟩⟩
    · have a1 := take_eq hT0 h1
      have a2 := take_eq hT9 h2
      rw [List.getElem?_append_left (by omega), a1] at a2
      injection a2
    rintro e w10 ⟨rfl, x10⟩
    have l10 := l9.qt x10
    refine ⟨_, rfl, fun _ => ⟨(depth_spec l10.stk).mono ?_⟩, fun h => by cases h⟩
    rintro e w11 ⟨rfl, q11⟩
    have l11 := l10.qt q11.ext
    have hLl : (L3 ++ [f]).length = L3.length + 1 := by simp
    refine ⟨_, rfl, fun _ => ⟨(used_spec l11.stk).mono ?_⟩, fun h => ?_⟩
    rotate_left
    · rw [wrap_i64 (by omega) (by omega)] at h
      omega
    rintro e w12 ⟨rfl, q12⟩
    have l12 := l11.qt q12.ext
    have hus : used (L3 ++ [f]) = used L3 + 3 + lo + hi := by
      rw [used_append, used_one, Fr.size, kf.ls, kf.hi, e2, e3]; omega
    refine ⟨_, rfl, fun h => by omega, fun _ w13 n13 => ?_⟩
    have x913 : Ext w9 w13 := ((x10.trans q11.ext).trans q12.ext).trans n13.ext
    have l13 := l12.qt n13.ext
    have ah13 := ah9.ext x913
    have tl13 := tl0.ext x913
    have hx13 : Rd w13 1 ⟨some ⟨w12.heap.size, 0, none⟩, 1, 1⟩ (tsv [(s2, T0)]) := (Blk.new n13).rd (by simp)
    have hsn : s.n = L3.length := by
      have := ah13.row.len1
      rw [tsv, List.length_map, ah13.len] at this
      exact this.symm
    have hs1n : s1.n = L3.length := by
      have := ah13.us.len1
      rw [iv_length, starts_len] at this
      exact this.symm
    obtain ⟨r, w14, hr14, hrn, ho14, hu14, hf14⟩ := ah13.row.append (t := 29) (ty := 29) tab_ok rfl rfl (by decide) hx13 (tsv_ones _) (by simp only; omega) (by simp only; omega) l13.ext.size
    refine ⟨r, w14, hr14, fun w15 n15 => ?_⟩
    have hsz := l13.stk.lt
    have l14 : Live w w14 g F6 W (L3 ++ [f]) := ⟨l13.ext.fresh hu14 (by rintro i ⟨p, hp, rfl⟩; exact (ah13.row.base p hp).1), l13.stk.upd hu14 (by rintro k hk ⟨p, hp, rfl⟩; exact ah13.so p hp hk), l13.new⟩
    have l15 := l14.qt n15.ext
    have us15 : Own w15 w.heap.size 3 1 s1 (iv (starts 0 L3)) := (ah13.us.upd hu14 (fun p hp ⟨q, hq, he⟩ => own_ne ah13.row ah13.us (by decide) q p hq hp he.symm)).ext n15.ext
    have hx15 : Rd w15 1 ⟨some ⟨w14.heap.size, 0, none⟩, 1, 1⟩ (iv [((used L3 : Nat) : Int)]) := (Blk.new n15).rd (by simp)
    obtain ⟨r1, w16, hr16, hr1n, ho16, hu16, hf16⟩ := us15.append (t := 30) (ty := 30) tab_ok rfl rfl (by decide) hx15 (iv_ones _) (by simp only; omega) (by simp only; omega) l15.ext.size
    have ho15 := ho14.ext n15.ext
    have l16 : Live w w16 g F6 W (L3 ++ [f]) := ⟨l15.ext.fresh hu16 (by rintro i ⟨p, hp, rfl⟩; exact (us15.base p hp).1), l15.stk.upd hu16 (by rintro k hk ⟨p, hp, rfl⟩; exact ah13.uo p hp hk), l15.new⟩
    have up : ∀ {s : Sl} {T' : List Tr}, TL w13 0 F6 s T' → TL w16 0 F6 s T' := fun t => ((t.updO ah13.row (by decide) (by decide) hu14).ext n15.ext).updO us15 (by decide) (by decide) hu16
    have hF16 : ∀ k, F6 k → k < w13.heap.size := fun k hk => hsz k hk
    refine ⟨r1, w16, hr16, ⟨?_, ?_, ?_, F6, T3 ++ [(s2, T0)], L3 ++ [f], l16, ?_, ⟨?_, ?_, ?_, ?_, ?_, ?_⟩⟩, ?_⟩
    · rw [wrap_i64 (by omega) (by omega)]; omega
    · rw [wrap_i64 (by omega) (by omega)]; omega
    · rw [wrap_i64 (by omega) (by omega)]; omega
    · rw [wrap_i64 (by omega) (by omega), hLl]; omega
    · have := ho15.upd hu16 (fun p hp ⟨q, hq, he⟩ => own_ne us15 ho15 (by decide) q p hq hp he.symm)
      rw [tsv, List.map_append]
      exact this
    · intro p hp hk
      rcases hf14 p hp with h' | h'
      · exact ah13.so p h' hk
      · have := hF16 _ hk; omega
    · simp [ah13.len]
    · intro j y hy
      rcases Nat.lt_or_ge j T3.length with hj | hj
      · rw [List.getElem?_append_left hj] at hy
        have := ah13.tl j y hy
        refine ⟨?_, up this.2⟩
        rw [this.1, List.take_append_of_le_length (by rw [← ah13.len]; omega)]
      · rw [List.getElem?_append_right hj] at hy
        have hj' : j - T3.length < 1 := (List.getElem?_eq_some_iff.1 hy).1
        have hj'' : j = T3.length := by omega
        subst hj''
        rw [Nat.sub_self] at hy
        simp at hy
        subst hy
        refine ⟨?_, up tl13⟩
        simp only [hT0]
        rw [ah13.len, List.take_left]
    · rw [starts_append, iv_append]
      simpa [starts] using ho16
    · intro p hp hk
      rcases hf16 p hp with h' | h'
      · exact ah13.uo p h' hk
      · have h1 := hF16 _ hk
        have h2 : w13.heap.size ≤ w15.heap.size := Nat.le_trans hu14.size n15.ext.size
        omega
    · dsimp only
      rw [wrap_i64 (by omega) (by omega)]; omega
  rintro _ s s1 w3 ⟨F3, T, L, l3, hL, ah3⟩
  have hsn : s.n = L.length := by
    have := ah3.row.len1
    rw [tsv, List.length_map, ah3.len] at this
    exact this.symm
  have hs1n : s1.n = L.length := by
    have := ah3.us.len1
    rw [iv_length, starts_len] at this
    exact this.symm
  refine ⟨fun n w' => -1 ≤ n ∧ n < L.length ∧ Live w w' g F3 W (L.take (n + 1).toNat) ∧ AH w' w.heap.size F3 s s1 T L, fun n _ => (n + 1).toNat, ⟨?_, ?_, ?_, ah3⟩, ?_⟩
  · rw [wrap_i64 (by omega) (by omega)]; omega
  · rw [wrap_i64 (by omega) (by omega)]; omega
  · rw [wrap_i64 (by omega) (by omega), List.take_of_length_le (by omega)]; exact l3
  rintro _ n w4 ⟨n0, n1, l4, ah4⟩
  refine ⟨fun hn w5 q5 => ⟨fun _ => False, ⟨(leave_spec (l4.qt q5.ext).stk).mono ?_⟩⟩, fun hn => ⟨(leave_spec l4.stk).mono ?_⟩⟩
  · rintro e w6 ⟨rfl, h6, u6⟩
    obtain ⟨m, rfl⟩ : ∃ m : Nat, n = m := ⟨n.toNat, by omega⟩
    rw [show ((m : Int) + 1).toNat = m + 1 by omega] at *
    have hl : (L.take (m + 1)).length = m + 1 := by rw [List.length_take]; omega
    rw [leaveL, if_neg (by omega)] at h6 ⊢
    have hdl : (L.take (m + 1)).dropLast = L.take m := by
      rw [List.dropLast_eq_take, hl, List.take_take]
      congr 1
      omega
    rw [hdl] at h6
    have l6 : Live w w6 g F3 W (L.take m) := (l4.qt q5.ext).stay u6 h6
    have ah6 := (ah4.ext q5.ext).stay u6
    obtain ⟨x, hx⟩ : ∃ x, T[m]? = some x := ⟨_, List.getElem?_eq_getElem (by rw [ah6.len]; omega)⟩
    have tl6 := ah6.tl m x hx
    have hlm : (L.take m).length = m := by rw [List.length_take]; omega
    have hxl : x.1.n = m := by
      rw [tl6.2.len, ← List.length_map (f := (·.1)), tl6.1, hlm]
    have rdA : ∀ w', Ext w6 w' → ∃ p, s.a = some p ∧ w'.cell? (p.add m) = some (.slice x.1.a x.1.n x.1.c) := by
      intro w' u
      obtain ⟨p, v, hp, hv, hc⟩ := (ah6.row.ext u).rd.at1 m (by omega)
      rw [tsv, List.getElem?_map, hx] at hv
      injection hv with hv
      subst hv
      exact ⟨p, hp, hc⟩
    have rdU : ∀ w', Ext w6 w' → ∃ p, s1.a = some p ∧ w'.cell? (p.add m) = some (.int .i64 (used (L.take m) : Nat)) := by
      intro w' u
      obtain ⟨p, v, hp, hv, hc⟩ := (ah6.us.ext u).rd.intl m (by omega)
      rw [starts_get L 0 m (by omega), Nat.zero_add] at hv
      injection hv with hv
      subst hv
      rw [Nat.mul_one] at hc
      exact ⟨p, hp, hc⟩
    obtain ⟨p, hp, _⟩ := rdA w6 (Ext.refl _)
    obtain ⟨q, hq, _⟩ := rdU w6 (Ext.refl _)
    have rdA' : ∀ w', Ext w6 w' → w'.cell? (p.add m) = some (.slice x.1.a x.1.n x.1.c) := fun w' u => by
      obtain ⟨p', hp', hc⟩ := rdA w' u
      rw [hp] at hp'; injection hp' with hp'; subst hp'; exact hc
    have rdU' : ∀ w', Ext w6 w' → w'.cell? (q.add m) = some (.int .i64 (used (L.take m) : Nat)) := fun w' u => by
      obtain ⟨p', hp', hc⟩ := rdU w' u
      rw [hq] at hp'; injection hp' with hp'; subst hp'; exact hc
    rw [Int.toNat_natCast]
    refine ⟨_, rfl, fun _ => ⟨hn, by omega, p, hp, x.1, rdA', ⟨(depth_spec l6.stk).mono ?_⟩⟩, fun h => absurd rfl h⟩
    rintro e w7 ⟨rfl, q7⟩
    have l7 := l6.qt q7.ext
    refine ⟨_, rfl, q7.ext, fun _ => ⟨hn, by omega, q, hq, _, fun w' u => rdU' w' (q7.ext.trans u), ⟨(used_spec l7.stk).mono ?_⟩⟩, fun h => by omega⟩
    rintro e w8 ⟨rfl, q8⟩
    have l8 := l7.qt q8.ext
    refine ⟨_, rfl, q8.ext, fun h => absurd rfl h, fun _ w9 q9 => ⟨fun _ => False, ?_⟩⟩
    have l9 := l8.qt q9.ext
    have x69 : Ext w6 w9 := (q7.ext.trans q8.ext).trans q9.ext
    refine ⟨hn, by omega, p, hp, x.1, fun w' u => rdA' w' (x69.trans u), hn, by omega, p, hp, x.1, fun w' u => rdA' w' (x69.trans u), ⟨(told_spec l9.stk).mono ?_⟩⟩
    rintro e w10 ⟨s4, T4, rfl, hT4, tl10, x10⟩
    have tlx := (tl6.2.ext x69).ext x10
    have hx2 : x.2.length = m := by rw [← List.length_map (f := (·.1)), tl6.1, hlm]
    have hT4l : T4.length = m := by rw [← List.length_map (f := (·.1)), hT4, hlm]
    refine ⟨_, rfl, x10, ⟨(alike_spec tl10 tlx x.1.n (by omega) (by omega) (fun i t t' hi h1 h2 => ?_) (by omega)).mono ?_⟩⟩
    · have a1 := take_eq hT4 h1
      have a2 := take_eq tl6.1 h2
      rw [a1] at a2
      injection a2
    rintro e w11 ⟨rfl, x11⟩
    have x611 : Ext w6 w11 := (x69.trans x10).trans x11
    refine ⟨_, rfl, fun h => (by cases h), fun _ => ⟨⟨?_, ?_, ?_, ah6.ext x611⟩, ?_⟩⟩
    · rw [wrap_i64 (by omega) (by omega)]; omega
    · rw [wrap_i64 (by omega) (by omega)]; omega
    · rw [wrap_i64 (by omega) (by omega), show ((m : Int) - 1 + 1).toNat = m by omega]
      exact l6.qt x611
    · dsimp only
      rw [wrap_i64 (by omega) (by omega)]; omega
  · rintro e w6 ⟨rfl, h6, u6⟩
    have hz : (n + 1).toNat = 0 := by omega
    rw [hz, List.take_zero] at l4 h6 ⊢
    have l6 : Live w w6 g F3 W [] := l4.stay u6 h6
    refine ⟨_, rfl, fun _ => ⟨(used_spec l6.stk).mono ?_⟩, fun h => absurd rfl h⟩
    rintro e w7 ⟨rfl, q7⟩
    exact ⟨_, rfl, rfl, (l6.qt q7.ext).ext⟩
end Go.Proofs.Ytodbmiflnellcaa.V
