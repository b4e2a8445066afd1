/-
  Law ArenaWalks: the walk.
-/
import Derived.Test.YtcmmdaginkhomaaPl5
namespace Go.Proofs.Ytcmmdaginkhomaa.V
open Go Go.RowKit
set_option linter.unusedVariables false
set_option linter.unusedSimpArgs false
set_option maxRecDepth 100000

abbrev allV (cc : Nat) : Value := .func (.func 42) #[] #[.pointer (some ⟨cc, 0, none⟩)]
/-- the law's own variables -/
structure Fx (W : World) (c0 c1 c2 c3 cc c4 c5 p g1 : Nat) (stop : Int) (late : Sl) (b : Bool) (n : Int) : Prop where
  k0 : Blk W c0 3 [.int .i64 stop]
  k1 : Blk W c1 66 [.slice late.a late.n late.c]
  k2 : Blk W c2 4 [.bool b]
  k3 : Blk W c3 67 [.pointer (some ⟨p, 0, none⟩)]
  k5 : Blk W cc 32 [.pointer (some ⟨g1, 0, none⟩)]
  k4 : Blk W c4 45 [allV cc]
  k6 : Blk W c5 3 [.int .i64 n]
section
variable {w0 W W' : World} {c0 c1 c2 c3 cc c4 c5 p b1 g1 b2 g2 : Nat} {stop n : Int} {late : Sl} {b : Bool} {A1 A2 : Ar} {s : Sl} {rs : List Nat} {S : Nat → Prop}
theorem Fx.keep (h : Fx W c0 c1 c2 c3 cc c4 c5 p g1 stop late b n) (u : Upd S W W') (hS : ∀ i, i = c0 ∨ i = c1 ∨ i = c2 ∨ i = c3 ∨ i = cc ∨ i = c4 ∨ i = c5 → ¬ S i) : Fx W' c0 c1 c2 c3 cc c4 c5 p g1 stop late b n :=
  ⟨h.k0.upd u (hS _ (by simp)), h.k1.upd u (hS _ (by simp)), h.k2.upd u (hS _ (by simp)), h.k3.upd u (hS _ (by simp)), h.k5.upd u (hS _ (by simp)), h.k4.upd u (hS _ (by simp)), h.k6.upd u (hS _ (by simp))⟩
theorem Fx.ext (h : Fx W c0 c1 c2 c3 cc c4 c5 p g1 stop late b n) (u : Ext W W') : Fx W' c0 c1 c2 c3 cc c4 c5 p g1 stop late b n := h.keep u fun _ _ => not_false
/-- the numbers of all these blocks -/
def Nm (c0 c1 c2 c3 cc c4 c5 p b1 g1 b2 g2 : Nat) : Prop := c0 < c1 ∧ c1 < c2 ∧ c2 < b1 ∧ c2 < g1 ∧ c2 < b2 ∧ c2 < g2 ∧ c2 < p ∧ b1 < c3 ∧ g1 < c3 ∧ b2 < c3 ∧ g2 < c3 ∧ p < c3 ∧ c3 < cc ∧ cc < c4 ∧ c4 < c5
theorem Fx.step (h : Fx W c0 c1 c2 c3 cc c4 c5 p g1 stop late b n) (pl : Pl w0 W p b1 g1 b2 g2 A1 A2 s rs) (nm : Nm c0 c1 c2 c3 cc c4 c5 p b1 g1 b2 g2) (u : Upd (PS b1 g1 b2 g2 p s) W W') : Fx W' c0 c1 c2 c3 cc c4 c5 p g1 stop late b n := by
  unfold Nm at nm
  refine h.keep u ?_
  have o := pl.ow
  have f0 := own_blk_ne o h.k0 (by decide); have f1 := own_blk_ne o h.k1 (by decide); have f2 := own_blk_ne o h.k2 (by decide); have f3 := own_blk_ne o h.k3 (by decide)
  have f5 := own_blk_ne o h.k5 (by decide); have f4 := own_blk_ne o h.k4 (by decide); have f6 := own_blk_ne o h.k6 (by decide)
  rintro i hi (e | e | e | e | e | ⟨q, hq, e⟩)
  · omega
  · omega
  · omega
  · omega
  · omega
  · have := f0 q hq; have := f1 q hq; have := f2 q hq; have := f3 q hq; have := f4 q hq; have := f5 q hq; have := f6 q hq
    omega
theorem Pl.rebase {w1 : World} (h : Pl w1 W p b1 g1 b2 g2 A1 A2 s rs) (x : Ext w0 w1) : Pl w0 W p b1 g1 b2 g2 A1 A2 s rs :=
  have z := x.size
  ⟨h.a1, h.a2, h.hd, h.ow.mono z, h.lt, h.ne, h.o, by have := h.lo; omega, x.trans h.x⟩
theorem own_obj {B e z : Nat} {xs : List Value} {o : Sl} (h : Own W B e z o xs) {g : Nat} {x : Obj} (hx : W.heap[g]? = some x) (hne : ∀ cs, x ≠ .cells cs e) : ∀ q, o.a = some q → q.block ≠ g := by
  rintro q hq rfl
  obtain ⟨g, cs, hg, _, hb, _⟩ := h.blk (by rw [hq]; simp)
  rw [hq] at hg; injection hg with hg; subst hg
  unfold Blk at hb
  rw [hb] at hx
  injection hx with hx
  exact hne _ hx.symm
end
theorem Path.take {A : Ar} {a e : Nat} {l : List Ob} (h : Path A a l e) : ∀ {n j : Nat} {hd : Hd}, l[n]? = some (j + 1, hd) → Path A a (l.take (n + 1)) (j + hd.l.toNat + 2) := by
  induction h with
  | nil => intro n j hd hn; cases hn
  | snoc p hs ih =>
    rename_i l0 b0 h0
    intro n j hd hn
    rcases Nat.lt_or_ge n l0.length with h1 | h1
    · rw [List.getElem?_append_left h1] at hn
      rw [List.take_append_of_le_length (by omega)]
      exact ih hn
    · have h2 := (List.getElem?_eq_some_iff.1 hn).1
      rw [List.length_append, List.length_singleton] at h2
      rw [List.getElem?_append_right h1, show n - l0.length = 0 by omega] at hn
      injection hn with hn
      obtain ⟨h3, h4⟩ := Prod.mk.inj hn
      rw [List.take_of_length_le (by rw [List.length_append, List.length_singleton]; omega), ← h4]
      have : j = b0 := by omega
      rw [this]
      exact p.snoc hs
set_option maxHeartbeats 1000000 in
theorem arenawalks_walk (w : World) (v0 v1 v2 v3 : Value) (x0 : Int) (x1 : (Par.one (.sl 96 OpR)).T) (x2 : Int) (x3 : (Par.one (.sl 96 OpR)).T) (h0 : (Par.one (.int .i64)).Is w v0 x0) (h1 : (Par.one (.sl 96 OpR)).Is w v1 x1)
    (h2 : (Par.one (.int .i64)).Is w v2 x2) (h3 : (Par.one (.sl 96 OpR)).Is w v3 x3) :
    Calls Try.prog 10 #[v0, v1, v2, v3] w fun e w' => e = .returned (.bool true) ∧ Ext w w' := by
  obtain ⟨rfl, r0⟩ := h0
  obtain ⟨rfl, hc, hl, hop⟩ := op_at h1
  obtain ⟨rfl, r2⟩ := h2
  obtain ⟨rfl, hc3, hl3, hop3⟩ := op_at h3
  have r0 := wf_i64 r0; have r2 := wf_i64 r2
  obtain ⟨script, ls⟩ := x1
  obtain ⟨late, ls3⟩ := x3
  dsimp only at *
  refine vc_10 x0 script x2 late _ _ ?_
  simp only [eq_self, false_or, or_false, true_and, and_true, decide_eq_true_eq, decide_eq_false_iff_not, gd_st, gd_sf, exists_eq_left', exists_eq_left, Option.some.injEq, Sl.eta, Nat.reduceLeDiff, Int.reduceLE, Int.reduceLT, Int.reduceEq, Int.reduceNe, Nat.reduceMul, Nat.reduceAdd, Nat.reduceSub, Int.toNat_natCast, beq_iff_eq, bne_iff_ne, beq_eq_false_iff_ne, bne_eq_false_iff_eq, pick_and, pick_or, Bool.and_eq_true, Bool.or_eq_true, Bool.and_eq_false_iff, Bool.or_eq_false_iff, ne_eq, not_false_eq_true, Bool.not_eq_true', Bool.not_eq_false', reduceCtorEq, Nat.le_refl, Nat.zero_mul, Nat.mul_one, Nat.zero_add, Int.reduceToNat, ones, one, add_mk, Decidable.not_not, cond_true, cond_false, true_implies, false_implies, implies_true, Bool.not_true, Bool.not_false]
  intro w1 n1 w2 n2 w3 n3
  have z1 := n1.size; have z2 := n2.size; have z3 := n3.size
  have x03 : Ext w w3 := (n1.ext.trans n2.ext).trans n3.ext
  have f0 := (Blk.new n1).ext (n2.ext.trans n3.ext)
  have f1 := (Blk.new n2).ext n3.ext
  have f2 := Blk.new n3
  refine ⟨(shown_spec w3).mono ?_⟩
  rintro e w4 ⟨rfl, x34⟩
  refine ⟨_, rfl, ⟨(begun_spec x34 r0).mono ?_⟩⟩
  rintro e w5 ⟨p, b1, g1, b2, g2, n, rfl, h5⟩
  have lo := h5.lo
  have hb1 := h5.a1.ws.lt; have hg1 := h5.a1.hd.lt; have hb2 := h5.a2.ws.lt; have hg2 := h5.a2.hd.lt; have hp := h5.hd.lt
  have x35 := h5.x
  have h5 := h5.rebase x03
  have z5 := x35.size
  refine ⟨_, _, rfl, fun w6 n6 => ⟨(Blk.new n6).canSet 0 (by simp), fun w7 s7 => ⟨fun _ => ⟨fun h => (by cases h), fun _ => ?_⟩, fun h => (by cases h)⟩⟩⟩
  have z6 := n6.size; have z7 := s7.size
  have k37 := s7.blk1 (Blk.new n6)
  have u7 : Upd (fun i => i = w5.heap.size) w6 w7 := s7.upd
  have x57 : Ext w5 w7 := n6.ext.fresh u7 (by rintro i rfl; omega)
  have f07 := f0.ext (x35.trans x57); have f17 := f1.ext (x35.trans x57); have f27 := f2.ext (x35.trans x57)
  have h7 := h5.ext x57
  refine ⟨fun n v => ∃ j : Nat, n = j ∧ j ≤ script.n ∧ ∃ A s rs, Pl w v p b1 g1 b2 g2 A A s rs ∧ rs.length ≤ j ∧ Blk v w.heap.size 3 [.int .i64 x2] ∧ Blk v w1.heap.size 66 [.slice late.a late.n late.c] ∧ Blk v w2.heap.size 4 [.bool false] ∧ Blk v w5.heap.size 67 [.pointer (some ⟨p, 0, none⟩)],
    fun n _ => (script.n - n).toNat, ⟨0, rfl, Nat.zero_le _, _, _, _, h7, Nat.le_refl _, f07, f17, f27, k37⟩, ?_⟩
  rintro _ n v ⟨j, rfl, hj, A, s, rs, hv, hrs, g0, gl, g2', g3⟩
  have ej : IntKind.i64.wrap ((j : Int) + 1) = ((j + 1 : Nat) : Int) := by rw [wrap_i64 (by omega) (by omega)]; omega
  refine ⟨fun hlt v1 q1 => ?_, fun hge => ?_⟩
  · obtain ⟨q, o, cs, hq, ok, hcells⟩ := hop j (by omega)
    have hv1 := hv.ext q1.ext
    refine ⟨fun _ => False, _, fun v' u' => ((g3.ext q1.ext).ext u').cell 0, by omega, hlt, q, hq, _, _, _, _, _, o.c, _, _, _, _, rfl, fun v' u' => by rw [Int.toNat_natCast]; exact hcells _ (hv1.x.trans u'), ⟨(step_spec hv1 ok (by omega)).mono ?_⟩⟩
    rintro e v2 ⟨rfl, A', s', rs', h4, hrs', u⟩
    rw [ej]
    have o1 := hv1.ow
    have no : ∀ {g T : Nat} {cs : List Value}, Blk v1 g T cs → T ≠ 22 → (g < w3.heap.size ∨ w5.heap.size ≤ g) → ¬ PS b1 g1 b2 g2 p s g := by
      rintro g T cs hb hT hg (e | e | e | e | e | ⟨q, hq, e⟩)
      · omega
      · omega
      · omega
      · omega
      · omega
      · exact own_blk_ne o1 hb (fun h => hT h.symm) q hq e.symm
    exact ⟨_, rfl, ⟨j + 1, rfl, by omega, A', s', rs', h4, by omega, (g0.ext q1.ext).upd u (no (g0.ext q1.ext) (by decide) (by omega)), (gl.ext q1.ext).upd u (no (gl.ext q1.ext) (by decide) (by omega)), (g2'.ext q1.ext).upd u (no (g2'.ext q1.ext) (by decide) (by omega)), (g3.ext q1.ext).upd u (no (g3.ext q1.ext) (by decide) (by omega))⟩, by dsimp only; omega⟩
  refine ⟨_, g3.cell 0, _, rfl, _, hv.hd.cell 0, ⟨(all_spec g1 v).mono ?_⟩⟩
  rintro e v1 ⟨rfl, cc1, x1'⟩
  have zcc := cc1.lt
  have zv1 := x1'.size
  refine ⟨_, rfl, fun v2 m2 => ⟨(Blk.new m2).canSet 0 (by simp), fun v3 m3 => ?_⟩⟩
  have y2 := m2.size; have y3 := m3.size
  have k43 := m3.blk1 (Blk.new m2)
  have u3 : Upd (fun i => i = v1.heap.size) v2 v3 := m3.upd
  have x13 : Ext v1 v3 := m2.ext.fresh u3 (by rintro i rfl; omega)
  refine ⟨_, k43.cell 0, fun v4 m4 => ⟨(Blk.new m4).canSet 0 (by simp), fun v5 m5 => ?_⟩⟩
  have y4 := m4.size; have y5 := m5.size
  have k65 := m5.blk1 (Blk.new m4)
  have u5 : Upd (fun i => i = v3.heap.size) v4 v5 := m5.upd
  have x35' : Ext v3 v5 := m4.ext.fresh u5 (by rintro i rfl; omega)
  have xv5 : Ext v v5 := (x1'.trans x13).trans x35'
  have hg3 := g3.lt
  have fx5 : Fx v5 w.heap.size w1.heap.size w2.heap.size w5.heap.size v.heap.size v1.heap.size v3.heap.size p g1 x2 late false 0 :=
    ⟨g0.ext xv5, gl.ext xv5, g2'.ext xv5, g3.ext xv5, cc1.ext (x13.trans x35'), k43.ext x35', k65⟩
  have nm : Nm w.heap.size w1.heap.size w2.heap.size w5.heap.size v.heap.size v1.heap.size v3.heap.size p b1 g1 b2 g2 := by unfold Nm; omega
  have hv5 := hv.ext xv5
  have nm' := nm
  unfold Nm at nm'
  generalize hc0 : w.heap.size = c0 at *
  generalize hc1 : w1.heap.size = c1 at *
  generalize hc2 : w2.heap.size = c2 at *
  generalize hc3' : w5.heap.size = c3 at *
  generalize hcc : v.heap.size = cc at *
  generalize hc4 : v1.heap.size = c4 at *
  generalize hc5 : v3.heap.size = c5 at *
  refine ⟨_, fx5.k4.cell 0, fun rec D l v6 u6 hDl hD hR hY => ?_⟩
  have z56 := u6.size
  have fx6 := fx5.ext u6
  have hv6 := hv5.ext u6
  have small : ∀ {W : World} {A1 A2 : Ar} {s : Sl} {rs : List Nat}, Pl w W p b1 g1 b2 g2 A1 A2 s rs → A1.use.e ≤ 131072 := fun h => by
    have := h.a1.ok.useIn; have := h.a1.ok.n; omega
  refine ⟨(all1_spec (c := cc) (g := g1) (l := l)
    (fun k W => k ≤ 131072 ∧ Blk W cc 32 [.pointer (some ⟨g1, 0, none⟩)] ∧ (∃ n, Fx W c0 c1 c2 c3 cc c4 c5 p g1 x2 late false n) ∧ Pl w W p b1 g1 b2 g2 A A s rs ∧ Dfr D W ∧ Rdy rec l W)
    (fun W => (∃ n, Fx W c0 c1 c2 c3 cc c4 c5 p g1 x2 late false n) ∧ Pl w W p b1 g1 b2 g2 A A s rs ∧ Dfr D W ∧ (Rdy rec l W ∨ Lft rec l (.exit 2) W)) ?_ (h0 := hv6.a1) ⟨by have := small hv6; have := hv6.a1.ok.use1; omega, fx6.k5, ⟨_, fx6⟩, hv6, hD, hR⟩).mono ?_⟩
  · rintro k W ⟨hk, hcc', ⟨n, fx⟩, hW, hDW, hRW⟩
    refine ⟨hk, hcc', b1, A, hW.a1, fun W' x => ⟨fun _ => ⟨⟨n, fx.ext x⟩, hW.ext x, hDW.upd x not_false, .inl (hRW.upd x not_false)⟩, fun hd hst => ?_⟩⟩
    have hin := stT_in hst
    have hl0 := hin.2.1.2.2.1
    have hsm := small hW
    have hlW := hRW.lt; have hDW' := hDW.lt; have zx := x.size
    refine hY _ _ W' _ (hRW.upd x not_false) ?_
    refine ⟨hRW.upd x not_false, fun v7 u7' q7 hB7 v8 q8 => ?_⟩
    have fx8 := ((fx.ext x).keep u7' (by omega)).ext q8.ext
    have hW8 := ((hW.ext x).keep u7' (by omega) (fun q hq => own_obj (hW.ext x).ow (hRW.upd x not_false) (by intro cs h; cases h) q hq) (by omega)).ext q8.ext
    have hB8 := hB7.upd q8.ext not_false
    have hD8 := ((hDW.upd x not_false).upd u7' (by omega)).upd q8.ext not_false
    refine ⟨fun _ => False, _, fun v' u' => (fx8.ext u').k6.cell 0, _, fun v' u' => (fx8.ext u').k0.cell 0, ⟨(pick_spec x2 5 v8 r2.1 r2.2 (by decide)).mono ?_⟩⟩
    rintro e v9 ⟨rfl, rfl⟩
    refine ⟨_, rfl, Ext.refl _, fun _ => ⟨hB8, fun v10 u10 q10 hL => ⟨fun _ => ?_, fun h => (by cases h)⟩⟩, fun _ => ⟨_, fx8.k6.cell 0, fx8.k6.canSet 0 (by simp), fun v10 s10 => ?_⟩⟩
    · exact ⟨⟨n, fx8.keep u10 (by omega)⟩, hW8.keep u10 (by omega) (fun q hq => own_obj hW8.ow hB8 (by intro cs h; cases h) q hq) (by omega), hD8.upd u10 (by omega), .inr hL⟩
    · have u10 : Upd (fun i => i = c5) _ v10 := s10.upd
      have fx10 : Fx v10 c0 c1 c2 c3 cc c4 c5 p g1 x2 late false _ := ⟨fx8.k0.upd u10 (by omega), fx8.k1.upd u10 (by omega), fx8.k2.upd u10 (by omega), fx8.k3.upd u10 (by omega), fx8.k5.upd u10 (by omega), fx8.k4.upd u10 (by omega), s10.blk1 fx8.k6⟩
      have hW10 := hW8.keep u10 (by omega) (own_blk_ne hW8.ow fx8.k6 (by decide)) (by omega)
      have hB10 := hB8.upd u10 (by omega)
      refine ⟨hB10, fun v11 u11 q11 hR11 => ⟨fun h => (by cases h), fun _ => ⟨⟨by omega, ?_, ⟨_, fx10.keep u11 (by omega)⟩, hW10.keep u11 (by omega) (fun q hq => own_obj hW10.ow hB10 (by intro cs h; cases h) q hq) (by omega), (hD8.upd u10 (by omega)).upd u11 (by omega), hR11⟩, fun i => i < W.heap.size, ?_, fun k h => h⟩⟩⟩
      · exact (fx10.keep u11 (by omega)).k5
      · have Z8 : Upd (fun i => i < W.heap.size) W' _ := ((Ext.toS (Ext.refl W')).fresh u7' (by rintro i rfl; exact .inr hlW)).still' q8.ext
        exact (Z8.fresh u10 (by rintro i rfl; exact .inr (by have := fx.k6.lt; omega))).fresh u11 (by rintro i rfl; exact .inr hlW)
  rintro e v7 ⟨rfl, ⟨n7, fx7⟩, hv7, hD7, hRL⟩
  obtain ⟨lp, hlp⟩ : ∃ lp, v7.heap[l]? = some (.loop lp) := by
    rcases hRL with h | h
    · exact ⟨_, h⟩
    · exact ⟨_, h⟩
  have hl7 : l < v7.heap.size := (Array.getElem?_eq_some_iff.1 hlp).1
  have hc57 := fx7.k6.lt
  refine ⟨_, rfl, ?_⟩
  rcases hRL with hRl | hRl
  · refine .inl ⟨hRl, fun v8 u8 q8 => ?_⟩
    have fx8 := fx7.keep u8 (by omega)
    have hv8 := hv7.keep u8 (by omega) (fun q hq => own_obj hv7.ow hlp (by intro cs h; cases h) q hq) (by omega)
    have hD8 := hD7.upd u8 (by omega)
    refine ⟨fx8.k6.canSet 0 (by simp), fun v9 s9 => ?_⟩
    have u9 : Upd (fun i => i = c5) v8 v9 := s9.upd
    have fx9 : Fx v9 c0 c1 c2 c3 cc c4 c5 p g1 x2 late false 0 := ⟨fx8.k0.upd u9 (by omega), fx8.k1.upd u9 (by omega), fx8.k2.upd u9 (by omega), fx8.k3.upd u9 (by omega), fx8.k5.upd u9 (by omega), fx8.k4.upd u9 (by omega), s9.blk1 fx8.k6⟩
    have hv9 := hv8.keep u9 (by omega) (own_blk_ne hv8.ow fx8.k6 (by decide)) (by omega)
    have hD9 := hD8.upd u9 (by omega)
    have hD9' := hD9.lt
    refine ⟨_, fx9.k4.cell 0, fun rec2 D2 l2 v10 u10 hDl2 hD2 hR2 hY2 => ?_⟩
    have z10 := u10.size
    have hc5v := fx9.k6.lt
    refine ⟨(all1_spec (c := cc) (g := g1) (l := l2)
      (fun k W => k ≤ 131072 ∧ Blk W cc 32 [.pointer (some ⟨g1, 0, none⟩)] ∧ ∃ A s rs m, Pl w W p b1 g1 b2 g2 A A s rs ∧ rs.length ≤ script.n + m.length ∧ Path A A.use.f m k ∧ Fx W c0 c1 c2 c3 cc c4 c5 p g1 x2 late false (m.length : Nat) ∧ Dfr D W ∧ Dfr D2 W ∧ Rdy rec2 l2 W)
      (fun W => ∃ A s rs, Pl w W p b1 g1 b2 g2 A A s rs ∧ Dfr D W ∧ Dfr D2 W ∧ ((Rdy rec2 l2 W ∧ Fx W c0 c1 c2 c3 cc c4 c5 p g1 x2 late false ((allT A).1.length : Nat)) ∨ (Lft rec2 l2 .ret W ∧ ∃ n, Fx W c0 c1 c2 c3 cc c4 c5 p g1 x2 late true n))) ?_ (h0 := (hv9.ext u10).a1)
      ⟨by have := small hv9; have := hv9.a1.ok.use1; omega, (fx9.ext u10).k5, A, s, rs, [], hv9.ext u10, by show rs.length ≤ script.n + 0; omega, .nil, fx9.ext u10, hD9.upd u10 not_false, hD2, hR2⟩).mono ?_⟩
    · rintro k W ⟨hk, hcc', A, s, rs, m, hW, hrsl, hP, fx, hDW, hD2W, hRW⟩
      have hn := hW.a1.ok.n; have hi := hW.a1.ok.useIn
      obtain ⟨hPA, hEA⟩ := allT_path hW.a1.ok
      have hPle := hPA.end_le hW.a1.ok.use1.1
      have hPln := hPA.len
      refine ⟨hk, hcc', b1, A, hW.a1, fun W' x => ⟨fun hst => ?_, fun hd hst => ?_⟩⟩
      · obtain ⟨em, _⟩ := hP.uniq hst hPA hEA
        refine ⟨A, s, rs, hW.ext x, hDW.upd x not_false, hD2W.upd x not_false, .inl ⟨hRW.upd x not_false, ?_⟩⟩
        rw [← em]; exact fx.ext x
      have hin := stT_in hst
      have hl0 := hin.2.1.2.2.1
      have hl1 := hin.2.1.le
      have hsm := small hW
      have hnx := hP.next hst hPA hEA
      have hmlt := (List.getElem?_eq_some_iff.1 hnx).1
      have hlW := hRW.lt; have hDW' := hDW.lt; have hD2W' := hD2W.lt; have zx := x.size; have hc5W := fx.k6.lt
      refine hY2 _ _ _ _ _ W' _ (hRW.upd x not_false) ?_
      intro y1 m1
      refine ⟨rfl, HB.can m1, fun y2 m2 => ?_⟩
      obtain ⟨hb2', yx2⟩ := HB.made m1 m2
      have yx2' : Ext W' y2 := yx2
      have xx2 := x.trans yx2
      refine ⟨hRW.upd xx2 not_false, fun y3 t3 e3 hB3 => ?_⟩
      have fxy3 := (fx.ext xx2).keep t3 (by omega)
      have hWy3 := (hW.ext xx2).keep t3 (by omega) (fun q hq => own_obj (hW.ext xx2).ow (hRW.upd xx2 not_false) (by intro cs h; cases h) q hq) (by omega)
      have hby3 := hb2'.upd t3 (by omega)
      have hDy3 := (hDW.upd xx2 not_false).upd t3 (by omega)
      have hD2y3 := (hD2W.upd xx2 not_false).upd t3 (by omega)
      have Z3 : Upd (fun i => i < W.heap.size) W' y3 := (yx2'.toS).fresh t3 (by rintro i rfl; exact .inr hlW)
      refine ⟨_, fxy3.k3.cell 0, _, rfl, _, hWy3.hd.cell 1, ⟨(rall_spec hWy3.a2).mono ?_⟩⟩
      rintro e y4 ⟨sl, rfl, hsn, o4, xy4⟩
      refine ⟨sl, _, rfl, fun y5 q5 => ?_⟩
      have x35y := xy4.trans q5.ext
      have fxy5 := fxy3.ext x35y
      have hWy5 := hWy3.ext x35y
      have hby5 := hby3.ext x35y
      have hBy5 := hB3.upd x35y not_false
      have Z5 := Z3.still' x35y
      have oy5 := o4.ext q5.ext
      have obj : ∀ {v' : World}, Ext y5 v' → ∃ q, sl.a = some q ∧ v'.cell? ((q.add (m.length * 5)).add 0) = some (.int .u64 (k + 1 : Nat)) ∧ v'.cell? (((q.add (m.length * 5)).add 1).add 0) = some (.int .i64 hd.k) ∧ v'.cell? (((q.add (m.length * 5)).add 1).add 1) = some (.int .i64 hd.t) ∧
          v'.cell? (((q.add (m.length * 5)).add 1).add 2) = some (.int .i64 hd.l) ∧ v'.cell? (((q.add (m.length * 5)).add 1).add 3) = some (.int .u64 (hd.r : Nat)) := fun x' => (oy5.ext x').rd.obj hnx
      obtain ⟨q, hq, _⟩ := obj (Ext.refl y5)
      have cell : ∀ {v' : World}, Ext y5 v' → v'.cell? ((q.add (((m.length : Nat) : Int).toNat * 5)).add 0) = some (.int .u64 (k + 1 : Nat)) ∧ v'.cell? (((q.add (((m.length : Nat) : Int).toNat * 5)).add 1).add 0) = some (.int .i64 hd.k) ∧ v'.cell? (((q.add (((m.length : Nat) : Int).toNat * 5)).add 1).add 1) = some (.int .i64 hd.t) ∧
          v'.cell? (((q.add (((m.length : Nat) : Int).toNat * 5)).add 1).add 2) = some (.int .i64 hd.l) ∧ v'.cell? (((q.add (((m.length : Nat) : Int).toNat * 5)).add 1).add 3) = some (.int .u64 (hd.r : Nat)) := fun x' => by
        obtain ⟨q', hq', hc⟩ := obj x'
        rw [hq] at hq'; injection hq' with hq'; subst hq'
        rw [Int.toNat_natCast]; exact hc
      refine ⟨fun _ => False, _, fun v' u' => (fxy5.ext u').k6.cell 0, fun hge => ⟨_, fun v' u' => (fxy5.ext u').k6.cell 0, by omega, by omega, q, hq, _, fun v' u' => (cell u').1, fun _ => ⟨_, fun v' u' => (fxy5.ext u').k6.cell 0, by omega, by omega, q, hq, _, _, _, _, rfl, fun v' u' => (cell u').2, _, _, _, _, rfl, fun v' u' => ⟨(hby5.ext u').cell 0, (hby5.ext u').cell 1, (hby5.ext u').cell 2, (hby5.ext u').cell 3⟩, fun hh => ?_, fun _ => ?_⟩, fun hne => absurd rfl hne⟩, fun hle => absurd hle (by omega)⟩
      · rcases hh with ((hh | hh) | hh) | hh <;> exact absurd rfl hh
      intro y6 m6
      refine ⟨(Blk.new m6).canSet 0 (by simp), fun y7 m7 => ?_⟩
      have e6 := m6.size; have e7 := m7.size
      have cw7 := m7.blk1 (Blk.new m6)
      have t7 : Upd (fun i => i = y5.heap.size) y6 y7 := m7.upd
      have x57y : Ext y5 y7 := m6.ext.fresh t7 (by rintro i rfl; omega)
      have z5W : W'.heap.size ≤ y5.heap.size := Z5.size
      refine ⟨_, (fxy5.ext x57y).k4.cell 0, ⟨_, hBy5.upd x57y not_false⟩, fun rec3 l3 y8 t8 hl3 hR3 hY3 => ?_⟩
      have e8 := t8.size
      have x58y := x57y.trans t8
      refine ⟨(all1_spec (c := cc) (g := g1) (l := l3)
        (fun k V => k ≤ 131072 ∧ Blk V cc 32 [.pointer (some ⟨g1, 0, none⟩)] ∧ ∃ m', Path A A.use.f m' k ∧ Blk V y5.heap.size 3 [.int .i64 (m'.length : Nat)] ∧ Rdy rec3 l3 V ∧ Ext y5 V)
        (fun V => Blk V y5.heap.size 3 [.int .i64 ((allT A).1.length : Nat)] ∧ Rdy rec3 l3 V ∧ Ext y5 V) ?_ (h0 := (hWy5.ext x58y).a1) ⟨by have := hWy5.a1.ok.use1; omega, (fxy5.ext x58y).k5, [], .nil, cw7.ext t8, hR3, x58y⟩).mono ?_⟩
      · rintro k' V ⟨hk', hccV, m', hP', cwV, hRV, xV⟩
        refine ⟨hk', hccV, b1, A, (hWy5.ext xV).a1, fun V' xx => ⟨fun hst' => ?_, fun hd' hst' => ?_⟩⟩
        · obtain ⟨em, _⟩ := hP'.uniq hst' hPA hEA
          rw [← em]; exact ⟨cwV.ext xx, hRV.upd xx not_false, xV.trans xx⟩
        have hin' := stT_in hst'
        have hl0' := hin'.2.1.2.2.1
        have hnx' := hP'.next hst' hPA hEA
        have hmlt' := (List.getElem?_eq_some_iff.1 hnx').1
        have hlV := hRV.lt; have zxV := xx.size; have hccV' := hccV.lt; have hcwV := cwV.lt
        refine hY3 _ _ V' _ (hRV.upd xx not_false) ?_
        refine ⟨hRV.upd xx not_false, fun a1 p1 d1 hBa => ?_⟩
        have cwa := (cwV.ext xx).upd p1 (by omega)
        refine ⟨_, cwa.cell 0, cwa.canSet 0 (by simp), fun a2 p2 => ?_⟩
        have ek' : IntKind.i64.wrap ((m'.length : Int) + 1) = ((m'.length + 1 : Nat) : Int) := by rw [wrap_i64 (by omega) (by omega)]; omega
        rw [ek'] at p2
        have cwb := p2.blk1 cwa
        have p2u : Upd (fun i => i = y5.heap.size) a1 a2 := p2.upd
        refine ⟨hBa.upd p2u (by omega), fun a3 p3 d3 hRa => ⟨fun h => (by cases h), fun _ => ⟨⟨by omega, ?_, _, hP'.snoc hst', by rw [List.length_append, List.length_singleton]; exact cwb.upd p3 (by omega), hRa, (((xV.trans xx).fresh p1 (by rintro i rfl; omega)).fresh p2u (by rintro i rfl; omega)).fresh p3 (by rintro i rfl; omega)⟩, fun i => i < V.heap.size, ?_, fun k h => h⟩⟩⟩
        · exact (((hccV.ext xx).upd p1 (by omega)).upd p2u (by have := fxy5.k5.lt; omega)).upd p3 (by omega)
        · exact (((Ext.toS (Ext.refl V')).fresh p1 (by rintro i rfl; exact .inr hlV)).fresh p2u (by rintro i rfl; exact .inr hcwV)).fresh p3 (by rintro i rfl; exact .inr hlV)
      rintro e y9 ⟨rfl, cw9, hR9, x59y⟩
      have hl39 := hR9.lt
      refine ⟨_, rfl, hR9, fun y10 t10 e10 => ?_⟩
      have x510 : Ext y5 y10 := x59y.fresh t10 (by rintro i rfl; omega)
      have cw10 := cw9.upd t10 (by omega)
      have fx10 := fxy5.ext x510
      have hW10 := hWy5.ext x510
      have hb10 := hby5.ext x510
      have hB10 := hBy5.upd x510 not_false
      have hD10 := (hDy3.upd x35y not_false).upd x510 not_false
      have hD210 := (hD2y3.upd x35y not_false).upd x510 not_false
      have Z10 := Z5.still' x510
      have hlobj := hB10
      -- the walk ends here with a word
      have left : ∀ {y y' y'' : World} {A : Ar} {s : Sl} {rs : List Nat} {n : Int}, Pl w y p b1 g1 b2 g2 A A s rs → Fx y c0 c1 c2 c3 cc c4 c5 p g1 x2 late false n → Dfr D y → Dfr D2 y → Bsy rec2 l2 y → SetW y ⟨c2, 0, none⟩ [.bool true] y' → Upd (fun i => i = l2) y' y'' → Lft rec2 l2 .ret y'' →
          ∃ A s rs, Pl w y'' p b1 g1 b2 g2 A A s rs ∧ Dfr D y'' ∧ Dfr D2 y'' ∧ ((Rdy rec2 l2 y'' ∧ Fx y'' c0 c1 c2 c3 cc c4 c5 p g1 x2 late false ((allT A).1.length : Nat)) ∨ (Lft rec2 l2 .ret y'' ∧ ∃ n, Fx y'' c0 c1 c2 c3 cc c4 c5 p g1 x2 late true n)) := by
        intro y y' y'' A s rs n hpl hfx hd1 hd2 hb hs hu hl
        have us : Upd (fun i => i = c2) y y' := hs.upd
        have hfx' : Fx y' c0 c1 c2 c3 cc c4 c5 p g1 x2 late true n := ⟨hfx.k0.upd us (by omega), hfx.k1.upd us (by omega), hs.blk1 hfx.k2, hfx.k3.upd us (by omega), hfx.k5.upd us (by omega), hfx.k4.upd us (by omega), hfx.k6.upd us (by omega)⟩
        have hpl' := hpl.keep us (by omega) (own_blk_ne hpl.ow hfx.k2 (by decide)) (by omega)
        have hb' := hb.upd us (by omega)
        exact ⟨A, s, rs, hpl'.keep hu (by omega) (fun q hq => own_obj hpl'.ow hb' (by intro cs h; cases h) q hq) (by omega), (hd1.upd us (by omega)).upd hu (by omega), (hd2.upd us (by omega)).upd hu (by omega), .inr ⟨hl, n, hfx'.keep hu (by omega)⟩⟩
      -- and here it goes on
      have next : ∀ {y y' y'' : World} {A : Ar} {s : Sl} {rs : List Nat} {m' : List Ob}, Pl w y p b1 g1 b2 g2 A A s rs → rs.length ≤ script.n + (m.length + 1) → m'.length = m.length + 1 → Path A A.use.f m' (k + hd.l.toNat + 2) → Fx y c0 c1 c2 c3 cc c4 c5 p g1 x2 late false (m.length : Nat) → Dfr D y → Dfr D2 y → Bsy rec2 l2 y → Upd (fun i => i < W.heap.size) W' y →
          SetW y ⟨c5, 0, none⟩ [.int .i64 (IntKind.i64.wrap (((m.length : Nat) : Int) + 1))] y' → Bsy rec2 l2 y' ∧ ∀ y'', Upd (fun i => i = l2) y' y'' → y''.heap.size = y'.heap.size → Rdy rec2 l2 y'' → (true = false → ∃ A s rs, Pl w y'' p b1 g1 b2 g2 A A s rs ∧ Dfr D y'' ∧ Dfr D2 y'' ∧ ((Rdy rec2 l2 y'' ∧ Fx y'' c0 c1 c2 c3 cc c4 c5 p g1 x2 late false ((allT A).1.length : Nat)) ∨ (Lft rec2 l2 .ret y'' ∧ ∃ n, Fx y'' c0 c1 c2 c3 cc c4 c5 p g1 x2 late true n))) ∧
          (true = true → (k + hd.l.toNat + 2 ≤ 131072 ∧ Blk y'' cc 32 [.pointer (some ⟨g1, 0, none⟩)] ∧ ∃ A s rs m, Pl w y'' p b1 g1 b2 g2 A A s rs ∧ rs.length ≤ script.n + m.length ∧ Path A A.use.f m (k + hd.l.toNat + 2) ∧ Fx y'' c0 c1 c2 c3 cc c4 c5 p g1 x2 late false (m.length : Nat) ∧ Dfr D y'' ∧ Dfr D2 y'' ∧ Rdy rec2 l2 y'') ∧ ∃ S, Upd S W' y'' ∧ ∀ k, S k → k < W.heap.size) := by
        intro y y' y'' A s rs m' hpl hrs' hm' hP' hfx hd1 hd2 hb hZ hs
        have us : Upd (fun i => i = c5) y y' := hs.upd
        have ek : IntKind.i64.wrap (((m.length : Nat) : Int) + 1) = ((m'.length : Nat) : Int) := by rw [wrap_i64 (by omega) (by omega)]; omega
        rw [ek] at hs
        have hfx' : Fx y' c0 c1 c2 c3 cc c4 c5 p g1 x2 late false (m'.length : Nat) := ⟨hfx.k0.upd us (by omega), hfx.k1.upd us (by omega), hfx.k2.upd us (by omega), hfx.k3.upd us (by omega), hfx.k5.upd us (by omega), hfx.k4.upd us (by omega), hs.blk1 hfx.k6⟩
        have hpl' := hpl.keep us (by omega) (own_blk_ne hpl.ow hfx.k6 (by decide)) (by omega)
        have hb' := hb.upd us (by omega)
        refine ⟨hb', fun y'' hu hsz hR => ⟨fun h => (by cases h), fun _ => ⟨⟨?_, (hfx'.keep hu (by omega)).k5, A, s, rs, m', hpl'.keep hu (by omega) (fun q hq => own_obj hpl'.ow hb' (by intro cs h; cases h) q hq) (by omega), by omega, hP', hfx'.keep hu (by omega), (hd1.upd us (by omega)).upd hu (by omega), (hd2.upd us (by omega)).upd hu (by omega), hR⟩, fun i => i < W.heap.size, ?_, fun k h => h⟩⟩⟩
        · have := hP'.end_le hpl.a1.ok.use1.1; have := small hpl; omega
        · exact (hZ.fresh us (by rintro i rfl; exact .inr (by omega))).fresh hu (by rintro i rfl; exact .inr hlW)
      have plain : ∀ y', SetW y10 ⟨c5, 0, none⟩ [.int .i64 (IntKind.i64.wrap (((m.length : Nat) : Int) + 1))] y' → _ := fun y' hs => next (y'' := y') hW10 (by omega) (by rw [List.length_append, List.length_singleton]) (hP.snoc hst) fx10 hD10 hD210 hB10 Z10 hs
      refine ⟨_, cw10.cell 0, fun _ => ⟨_, fx10.k6.cell 0, fun h40 => ⟨_, cw10.cell 0, fx10.k2.canSet 0 (by simp), fun y11 s11 => ?_⟩, fun h40 => ⟨_, fx10.k6.cell 0, late, fx10.k1.cell 0, fun hlt2 => ?_, fun hge2 => ⟨_, fx10.k6.cell 0, fx10.k6.canSet 0 (by simp), fun y11 s11 => plain y11 s11⟩⟩⟩, fun hne => absurd (by omega) hne⟩
      · have e : ((((allT A).1.length : Nat) : Int) == ((sl.n : Nat) : Int)) = true := by rw [hsn]; simp
        rw [e] at s11
        have us : Upd (fun i => i = c2) y10 y11 := s11.upd
        exact ⟨hB10.upd us (by omega), fun y12 t12 e12 hL12 => ⟨fun _ => left hW10 fx10 hD10 hD210 hB10 s11 t12 hL12, fun h => (by cases h)⟩⟩
      obtain ⟨qo, o, cs, hqo, ok, hcells⟩ := hop3 m.length (by omega)
      refine ⟨late, fx10.k1.cell 0, _, fx10.k6.cell 0, by omega, by omega, qo, hqo, _, by rw [Int.toNat_natCast]; exact (hcells _ hW10.x).1, ⟨(pick_spec o.k 16 y10 ok.k.1 ok.k.2 (by decide)).mono ?_⟩⟩
      rintro e y11 ⟨rfl, rfl⟩
      refine ⟨_, rfl, fun h9 y12 q12 => ?_, fun h9 => ⟨_, fx10.k6.cell 0, fx10.k6.canSet 0 (by simp), fun y12 s12 => plain y12 s12⟩⟩
      have fx12 := fx10.ext q12.ext
      have hW12 := hW10.ext q12.ext
      have hb12 := hb10.ext q12.ext
      have hB12 := hB10.upd q12.ext not_false
      have hD12 := hD10.upd q12.ext not_false
      have hD212 := hD210.upd q12.ext not_false
      have Z12 := Z10.still' q12.ext
      refine ⟨fun _ => False, _, fun v' u' => (fx12.ext u').k3.cell 0, late, fun v' u' => (fx12.ext u').k1.cell 0, _, fun v' u' => (fx12.ext u').k6.cell 0, by omega, by omega, qo, hqo, _, _, _, _, _, o.c, _, _, _, _, rfl, fun v' u' => by rw [Int.toNat_natCast]; exact hcells _ (hW12.x.trans u'), ⟨(step_spec hW12 ok (by omega)).mono ?_⟩⟩
      rintro e y13 ⟨rfl, A', s', rs', h13, hrs13, U⟩
      have nps : ∀ g, c3 ≤ g → (∀ q, s.a = some q → q.block ≠ g) → ¬ PS b1 g1 b2 g2 p s g := by
        rintro g hg hs (e | e | e | e | e | ⟨q, hq, e⟩)
        · omega
        · omega
        · omega
        · omega
        · omega
        · exact hs q hq e.symm
      have fx13 := fx12.step hW12 nm U
      have hb13 := hb12.upd U (nps _ (by omega) (own_blk_ne hW12.ow hb12 (by decide)))
      have hB13 := hB12.upd U (nps _ (by omega) (own_obj hW12.ow hB12 (by intro cs h; cases h)))
      have hD13 := hD12.upd U (nps _ (by omega) (own_obj hW12.ow hD12 (by intro cs h; cases h)))
      have hD213 := hD212.upd U (nps _ (by omega) (own_obj hW12.ow hD212 (by intro cs h; cases h)))
      have Z13 : Upd (fun i => i < W.heap.size) W' y13 := Z12.fresh U (by
        rintro i (e | e | e | e | e | ⟨q, hq, e⟩)
        · exact .inr (by omega)
        · exact .inr (by omega)
        · exact .inr (by omega)
        · exact .inr (by omega)
        · exact .inr (by omega)
        · exact .inr (by have := (hW.ow.base q hq).2; omega))
      refine ⟨_, rfl, fun h => (by cases h), fun _ => ⟨_, fx13.k3.cell 0, _, rfl, _, h13.hd.cell 1, ⟨(rall_spec h13.a2).mono ?_⟩⟩⟩
      rintro e y14 ⟨now, rfl, hnn, o14, x14⟩
      refine ⟨now, _, rfl, fun y15 q15 => ?_⟩
      have x1315 := x14.trans q15.ext
      have fx15 := fx13.ext x1315
      have hW15 := h13.ext x1315
      have hb15 := hb13.ext x1315
      have hB15 := hB13.upd x1315 not_false
      have hD15 := hD13.upd x1315 not_false
      have hD215 := hD213.upd x1315 not_false
      have Z15 := Z13.still' x1315
      have o15 := o14.ext q15.ext
      obtain ⟨hPA', _⟩ := allT_path hW15.a1.ok
      have endd : ∀ y16, SetW y15 ⟨c2, 0, none⟩ [.bool true] y16 → Bsy rec2 l2 y16 ∧ ∀ y17, Upd (fun i => i = l2) y16 y17 → y17.heap.size = y16.heap.size → Lft rec2 l2 .ret y17 → (false = false → ∃ A s rs, Pl w y17 p b1 g1 b2 g2 A A s rs ∧ Dfr D y17 ∧ Dfr D2 y17 ∧ ((Rdy rec2 l2 y17 ∧ Fx y17 c0 c1 c2 c3 cc c4 c5 p g1 x2 late false ((allT A).1.length : Nat)) ∨ (Lft rec2 l2 .ret y17 ∧ ∃ n, Fx y17 c0 c1 c2 c3 cc c4 c5 p g1 x2 late true n))) ∧
          (false = true → (k + hd.l.toNat + 2 ≤ 131072 ∧ Blk y17 cc 32 [.pointer (some ⟨g1, 0, none⟩)] ∧ ∃ A s rs m, Pl w y17 p b1 g1 b2 g2 A A s rs ∧ rs.length ≤ script.n + m.length ∧ Path A A.use.f m (k + hd.l.toNat + 2) ∧ Fx y17 c0 c1 c2 c3 cc c4 c5 p g1 x2 late false (m.length : Nat) ∧ Dfr D y17 ∧ Dfr D2 y17 ∧ Rdy rec2 l2 y17) ∧ ∃ S, Upd S W' y17 ∧ ∀ k, S k → k < W.heap.size) := by
        intro y16 s16
        have us : Upd (fun i => i = c2) y15 y16 := s16.upd
        exact ⟨hB15.upd us (by omega), fun y17 t17 e17 hL => ⟨fun _ => left hW15 fx15 hD15 hD215 hB15 s16 t17 hL, fun h => (by cases h)⟩⟩
      refine ⟨fun _ => False, _, fun v' u' => (fx15.ext u').k6.cell 0, fun hge3 => ?_, fun hle3 => ⟨fx15.k2.canSet 0 (by simp), fun y16 s16 => endd y16 s16⟩⟩
      obtain ⟨ob, hob⟩ : ∃ ob, (allT A').1[m.length]? = some ob := ⟨_, List.getElem?_eq_getElem (by omega)⟩
      obtain ⟨qn, hqn, _⟩ := o15.rd.obj hob
      have celln : ∀ {v' : World}, Ext y15 v' → v'.cell? ((qn.add (((m.length : Nat) : Int).toNat * 5)).add 0) = some (.int .u64 (ob.1 : Nat)) ∧ v'.cell? (((qn.add (((m.length : Nat) : Int).toNat * 5)).add 1).add 0) = some (.int .i64 ob.2.k) ∧ v'.cell? (((qn.add (((m.length : Nat) : Int).toNat * 5)).add 1).add 1) = some (.int .i64 ob.2.t) ∧
          v'.cell? (((qn.add (((m.length : Nat) : Int).toNat * 5)).add 1).add 2) = some (.int .i64 ob.2.l) ∧ v'.cell? (((qn.add (((m.length : Nat) : Int).toNat * 5)).add 1).add 3) = some (.int .u64 (ob.2.r : Nat)) := fun x' => by
        obtain ⟨q', hq', hc⟩ := (o15.ext x').rd.obj hob
        rw [hqn] at hq'; injection hq' with hq'; subst hq'
        rw [Int.toNat_natCast]; exact hc
      refine ⟨_, fun v' u' => (fx15.ext u').k6.cell 0, by omega, by omega, qn, hqn, _, fun v' u' => (celln u').1, fun heq => ⟨_, fun v' u' => (fx15.ext u').k6.cell 0, by omega, by omega, qn, hqn, _, _, _, _, rfl, fun v' u' => (celln u').2, _, _, _, _, rfl, fun v' u' => ⟨(hb15.ext u').cell 0, (hb15.ext u').cell 1, (hb15.ext u').cell 2, (hb15.ext u').cell 3⟩, fun hh => ⟨fx15.k2.canSet 0 (by simp), fun y16 s16 => endd y16 s16⟩, fun heq2 => ⟨_, fx15.k6.cell 0, fx15.k6.canSet 0 (by simp), fun y16 s16 => ?_⟩⟩, fun hne => ⟨fx15.k2.canSet 0 (by simp), fun y16 s16 => endd y16 s16⟩⟩
      have eob : ob = (k + 1, hd) := by
        obtain ⟨⟨⟨e1, e2⟩, e3⟩, e4⟩ := heq2
        obtain ⟨o1, ⟨ok1, ot1, ol1, or1⟩⟩ := ob
        obtain ⟨hk1, ht1, hl1', hr1⟩ := hd
        dsimp only at e1 e2 e3 e4 heq
        subst e1 e2 e3
        have h5 : o1 = k + 1 := by omega
        have h6 : or1 = hr1 := by omega
        rw [h5, h6]
      rw [eob] at hob
      exact next (y'' := y16) hW15 (by omega) (by rw [List.length_take]; omega) (hPA'.take hob) fx15 hD15 hD215 hB15 Z15 s16
    rintro e v11 ⟨rfl, A', s', rs', hv11, hD11, hD211, hpost⟩
    refine ⟨_, rfl, ?_⟩
    have hDD : D ≠ D2 := by omega
    have hc511 : ∀ {b n}, Fx v11 c0 c1 c2 c3 cc c4 c5 p g1 x2 late b n → c5 < v11.heap.size := fun fx => fx.k6.lt
    have hDl11 := hD11.lt; have hD2l11 := hD211.lt
    rcases hpost with ⟨hR11, fx11⟩ | ⟨hL11, n', fx11⟩
    · refine .inl ⟨hR11, fun v12 u12 q12 => ?_⟩
      have fx12 := fx11.keep u12 (by omega)
      have hv12 := hv11.keep u12 (by omega) (fun q hq => own_obj hv11.ow hR11 (by intro cs h; cases h) q hq) (by omega)
      refine ⟨_, fx12.k3.cell 0, _, rfl, _, hv12.hd.cell 1, ⟨(rall_spec hv12.a2).mono ?_⟩⟩
      rintro e v13 ⟨sl, rfl, hsn, o13, x13'⟩
      have fx13 := fx12.ext x13'
      have hv13 := hv12.ext x13'
      refine ⟨sl, _, rfl, _, fx13.k6.cell 0, fx13.k2.canSet 0 (by simp), fun v14 s14 => ?_⟩
      have e : ((((allT A').1.length : Nat) : Int) == ((sl.n : Nat) : Int)) = true := by rw [hsn]; simp
      rw [e] at s14
      have k214 := s14.blk1 fx13.k2
      have u14 : Upd (fun i => i = c2) v13 v14 := s14.upd
      refine ⟨⟨by rintro (h | h); omega; exact h, fun h => h⟩, ⟨((hD211.upd u12 (by omega)).upd x13' not_false).upd u14 (by omega), ((hD11.upd u12 (by omega)).upd x13' not_false).upd u14 (by omega)⟩, fun v15 u15 q15 => ⟨_, (k214.upd u15 (by rintro (h | h | h); omega; omega; exact h)).cell 0, rfl, (hv13.x.fresh u14 (by rintro i rfl; omega)).fresh u15 (by rintro i (rfl | rfl | h); omega; omega; exact h.elim)⟩⟩
    · refine .inr ⟨hL11, fun v12 u12 q12 => ?_⟩
      have fx12 := fx11.keep u12 (by omega)
      have hv12 := hv11.keep u12 (by omega) (fun q hq => own_obj hv11.ow hL11 (by intro cs h; cases h) q hq) (by omega)
      refine ⟨⟨by rintro (h | h); omega; exact h, fun h => h⟩, ⟨hD211.upd u12 (by omega), hD11.upd u12 (by omega)⟩, fun v15 u15 q15 => ⟨_, (fx12.k2.upd u15 (by rintro (h | h | h); omega; omega; exact h)).cell 0, rfl, hv12.x.fresh u15 (by rintro i (rfl | rfl | h); omega; omega; exact h.elim)⟩⟩
  · refine .inr ⟨hRl, fun v8 u8 q8 => ?_⟩
    have fx8 := fx7.keep u8 (by omega)
    have hv8 := hv7.keep u8 (by omega) (fun q hq => own_obj hv7.ow hlp (by intro cs h; cases h) q hq) (by omega)
    have hD8 := hD7.upd u8 (by omega)
    refine ⟨fx8.k6.canSet 0 (by simp), fun v9 s9 => ?_⟩
    have u9 : Upd (fun i => i = c5) v8 v9 := s9.upd
    have fx9 : Fx v9 c0 c1 c2 c3 cc c4 c5 p g1 x2 late false 0 := ⟨fx8.k0.upd u9 (by omega), fx8.k1.upd u9 (by omega), fx8.k2.upd u9 (by omega), fx8.k3.upd u9 (by omega), fx8.k5.upd u9 (by omega), fx8.k4.upd u9 (by omega), s9.blk1 fx8.k6⟩
    have hv9 := hv8.keep u9 (by omega) (own_blk_ne hv8.ow fx8.k6 (by decide)) (by omega)
    have hD9 := hD8.upd u9 (by omega)
    have hD9' := hD9.lt
    refine ⟨_, fx9.k4.cell 0, fun rec2 D2 l2 v10 u10 hDl2 hD2 hR2 hY2 => ?_⟩
    have z10 := u10.size
    have hc5v := fx9.k6.lt
    refine ⟨(all1_spec (c := cc) (g := g1) (l := l2)
      (fun k W => k ≤ 131072 ∧ Blk W cc 32 [.pointer (some ⟨g1, 0, none⟩)] ∧ ∃ A s rs m, Pl w W p b1 g1 b2 g2 A A s rs ∧ rs.length ≤ script.n + m.length ∧ Path A A.use.f m k ∧ Fx W c0 c1 c2 c3 cc c4 c5 p g1 x2 late false (m.length : Nat) ∧ Dfr D W ∧ Dfr D2 W ∧ Rdy rec2 l2 W)
      (fun W => ∃ A s rs, Pl w W p b1 g1 b2 g2 A A s rs ∧ Dfr D W ∧ Dfr D2 W ∧ ((Rdy rec2 l2 W ∧ Fx W c0 c1 c2 c3 cc c4 c5 p g1 x2 late false ((allT A).1.length : Nat)) ∨ (Lft rec2 l2 .ret W ∧ ∃ n, Fx W c0 c1 c2 c3 cc c4 c5 p g1 x2 late true n))) ?_ (h0 := (hv9.ext u10).a1)
      ⟨by have := small hv9; have := hv9.a1.ok.use1; omega, (fx9.ext u10).k5, A, s, rs, [], hv9.ext u10, by show rs.length ≤ script.n + 0; omega, .nil, fx9.ext u10, hD9.upd u10 not_false, hD2, hR2⟩).mono ?_⟩
    · rintro k W ⟨hk, hcc', A, s, rs, m, hW, hrsl, hP, fx, hDW, hD2W, hRW⟩
      have hn := hW.a1.ok.n; have hi := hW.a1.ok.useIn
      obtain ⟨hPA, hEA⟩ := allT_path hW.a1.ok
      have hPle := hPA.end_le hW.a1.ok.use1.1
      have hPln := hPA.len
      refine ⟨hk, hcc', b1, A, hW.a1, fun W' x => ⟨fun hst => ?_, fun hd hst => ?_⟩⟩
      · obtain ⟨em, _⟩ := hP.uniq hst hPA hEA
        refine ⟨A, s, rs, hW.ext x, hDW.upd x not_false, hD2W.upd x not_false, .inl ⟨hRW.upd x not_false, ?_⟩⟩
        rw [← em]; exact fx.ext x
      have hin := stT_in hst
      have hl0 := hin.2.1.2.2.1
      have hl1 := hin.2.1.le
      have hsm := small hW
      have hnx := hP.next hst hPA hEA
      have hmlt := (List.getElem?_eq_some_iff.1 hnx).1
      have hlW := hRW.lt; have hDW' := hDW.lt; have hD2W' := hD2W.lt; have zx := x.size; have hc5W := fx.k6.lt
      refine hY2 _ _ _ _ _ W' _ (hRW.upd x not_false) ?_
      intro y1 m1
      refine ⟨rfl, HB.can m1, fun y2 m2 => ?_⟩
      obtain ⟨hb2', yx2⟩ := HB.made m1 m2
      have yx2' : Ext W' y2 := yx2
      have xx2 := x.trans yx2
      refine ⟨hRW.upd xx2 not_false, fun y3 t3 e3 hB3 => ?_⟩
      have fxy3 := (fx.ext xx2).keep t3 (by omega)
      have hWy3 := (hW.ext xx2).keep t3 (by omega) (fun q hq => own_obj (hW.ext xx2).ow (hRW.upd xx2 not_false) (by intro cs h; cases h) q hq) (by omega)
      have hby3 := hb2'.upd t3 (by omega)
      have hDy3 := (hDW.upd xx2 not_false).upd t3 (by omega)
      have hD2y3 := (hD2W.upd xx2 not_false).upd t3 (by omega)
      have Z3 : Upd (fun i => i < W.heap.size) W' y3 := (yx2'.toS).fresh t3 (by rintro i rfl; exact .inr hlW)
      refine ⟨_, fxy3.k3.cell 0, _, rfl, _, hWy3.hd.cell 1, ⟨(rall_spec hWy3.a2).mono ?_⟩⟩
      rintro e y4 ⟨sl, rfl, hsn, o4, xy4⟩
      refine ⟨sl, _, rfl, fun y5 q5 => ?_⟩
      have x35y := xy4.trans q5.ext
      have fxy5 := fxy3.ext x35y
      have hWy5 := hWy3.ext x35y
      have hby5 := hby3.ext x35y
      have hBy5 := hB3.upd x35y not_false
      have Z5 := Z3.still' x35y
      have oy5 := o4.ext q5.ext
      have obj : ∀ {v' : World}, Ext y5 v' → ∃ q, sl.a = some q ∧ v'.cell? ((q.add (m.length * 5)).add 0) = some (.int .u64 (k + 1 : Nat)) ∧ v'.cell? (((q.add (m.length * 5)).add 1).add 0) = some (.int .i64 hd.k) ∧ v'.cell? (((q.add (m.length * 5)).add 1).add 1) = some (.int .i64 hd.t) ∧
          v'.cell? (((q.add (m.length * 5)).add 1).add 2) = some (.int .i64 hd.l) ∧ v'.cell? (((q.add (m.length * 5)).add 1).add 3) = some (.int .u64 (hd.r : Nat)) := fun x' => (oy5.ext x').rd.obj hnx
      obtain ⟨q, hq, _⟩ := obj (Ext.refl y5)
      have cell : ∀ {v' : World}, Ext y5 v' → v'.cell? ((q.add (((m.length : Nat) : Int).toNat * 5)).add 0) = some (.int .u64 (k + 1 : Nat)) ∧ v'.cell? (((q.add (((m.length : Nat) : Int).toNat * 5)).add 1).add 0) = some (.int .i64 hd.k) ∧ v'.cell? (((q.add (((m.length : Nat) : Int).toNat * 5)).add 1).add 1) = some (.int .i64 hd.t) ∧
          v'.cell? (((q.add (((m.length : Nat) : Int).toNat * 5)).add 1).add 2) = some (.int .i64 hd.l) ∧ v'.cell? (((q.add (((m.length : Nat) : Int).toNat * 5)).add 1).add 3) = some (.int .u64 (hd.r : Nat)) := fun x' => by
        obtain ⟨q', hq', hc⟩ := obj x'
        rw [hq] at hq'; injection hq' with hq'; subst hq'
        rw [Int.toNat_natCast]; exact hc
      refine ⟨fun _ => False, _, fun v' u' => (fxy5.ext u').k6.cell 0, fun hge => ⟨_, fun v' u' => (fxy5.ext u').k6.cell 0, by omega, by omega, q, hq, _, fun v' u' => (cell u').1, fun _ => ⟨_, fun v' u' => (fxy5.ext u').k6.cell 0, by omega, by omega, q, hq, _, _, _, _, rfl, fun v' u' => (cell u').2, _, _, _, _, rfl, fun v' u' => ⟨(hby5.ext u').cell 0, (hby5.ext u').cell 1, (hby5.ext u').cell 2, (hby5.ext u').cell 3⟩, fun hh => ?_, fun _ => ?_⟩, fun hne => absurd rfl hne⟩, fun hle => absurd hle (by omega)⟩
      · rcases hh with ((hh | hh) | hh) | hh <;> exact absurd rfl hh
      intro y6 m6
      refine ⟨(Blk.new m6).canSet 0 (by simp), fun y7 m7 => ?_⟩
      have e6 := m6.size; have e7 := m7.size
      have cw7 := m7.blk1 (Blk.new m6)
      have t7 : Upd (fun i => i = y5.heap.size) y6 y7 := m7.upd
      have x57y : Ext y5 y7 := m6.ext.fresh t7 (by rintro i rfl; omega)
      have z5W : W'.heap.size ≤ y5.heap.size := Z5.size
      refine ⟨_, (fxy5.ext x57y).k4.cell 0, ⟨_, hBy5.upd x57y not_false⟩, fun rec3 l3 y8 t8 hl3 hR3 hY3 => ?_⟩
      have e8 := t8.size
      have x58y := x57y.trans t8
      refine ⟨(all1_spec (c := cc) (g := g1) (l := l3)
        (fun k V => k ≤ 131072 ∧ Blk V cc 32 [.pointer (some ⟨g1, 0, none⟩)] ∧ ∃ m', Path A A.use.f m' k ∧ Blk V y5.heap.size 3 [.int .i64 (m'.length : Nat)] ∧ Rdy rec3 l3 V ∧ Ext y5 V)
        (fun V => Blk V y5.heap.size 3 [.int .i64 ((allT A).1.length : Nat)] ∧ Rdy rec3 l3 V ∧ Ext y5 V) ?_ (h0 := (hWy5.ext x58y).a1) ⟨by have := hWy5.a1.ok.use1; omega, (fxy5.ext x58y).k5, [], .nil, cw7.ext t8, hR3, x58y⟩).mono ?_⟩
      · rintro k' V ⟨hk', hccV, m', hP', cwV, hRV, xV⟩
        refine ⟨hk', hccV, b1, A, (hWy5.ext xV).a1, fun V' xx => ⟨fun hst' => ?_, fun hd' hst' => ?_⟩⟩
        · obtain ⟨em, _⟩ := hP'.uniq hst' hPA hEA
          rw [← em]; exact ⟨cwV.ext xx, hRV.upd xx not_false, xV.trans xx⟩
        have hin' := stT_in hst'
        have hl0' := hin'.2.1.2.2.1
        have hnx' := hP'.next hst' hPA hEA
        have hmlt' := (List.getElem?_eq_some_iff.1 hnx').1
        have hlV := hRV.lt; have zxV := xx.size; have hccV' := hccV.lt; have hcwV := cwV.lt
        refine hY3 _ _ V' _ (hRV.upd xx not_false) ?_
        refine ⟨hRV.upd xx not_false, fun a1 p1 d1 hBa => ?_⟩
        have cwa := (cwV.ext xx).upd p1 (by omega)
        refine ⟨_, cwa.cell 0, cwa.canSet 0 (by simp), fun a2 p2 => ?_⟩
        have ek' : IntKind.i64.wrap ((m'.length : Int) + 1) = ((m'.length + 1 : Nat) : Int) := by rw [wrap_i64 (by omega) (by omega)]; omega
        rw [ek'] at p2
        have cwb := p2.blk1 cwa
        have p2u : Upd (fun i => i = y5.heap.size) a1 a2 := p2.upd
        refine ⟨hBa.upd p2u (by omega), fun a3 p3 d3 hRa => ⟨fun h => (by cases h), fun _ => ⟨⟨by omega, ?_, _, hP'.snoc hst', by rw [List.length_append, List.length_singleton]; exact cwb.upd p3 (by omega), hRa, (((xV.trans xx).fresh p1 (by rintro i rfl; omega)).fresh p2u (by rintro i rfl; omega)).fresh p3 (by rintro i rfl; omega)⟩, fun i => i < V.heap.size, ?_, fun k h => h⟩⟩⟩
        · exact (((hccV.ext xx).upd p1 (by omega)).upd p2u (by have := fxy5.k5.lt; omega)).upd p3 (by omega)
        · exact (((Ext.toS (Ext.refl V')).fresh p1 (by rintro i rfl; exact .inr hlV)).fresh p2u (by rintro i rfl; exact .inr hcwV)).fresh p3 (by rintro i rfl; exact .inr hlV)
      rintro e y9 ⟨rfl, cw9, hR9, x59y⟩
      have hl39 := hR9.lt
      refine ⟨_, rfl, hR9, fun y10 t10 e10 => ?_⟩
      have x510 : Ext y5 y10 := x59y.fresh t10 (by rintro i rfl; omega)
      have cw10 := cw9.upd t10 (by omega)
      have fx10 := fxy5.ext x510
      have hW10 := hWy5.ext x510
      have hb10 := hby5.ext x510
      have hB10 := hBy5.upd x510 not_false
      have hD10 := (hDy3.upd x35y not_false).upd x510 not_false
      have hD210 := (hD2y3.upd x35y not_false).upd x510 not_false
      have Z10 := Z5.still' x510
      have hlobj := hB10
      -- the walk ends here with a word
      have left : ∀ {y y' y'' : World} {A : Ar} {s : Sl} {rs : List Nat} {n : Int}, Pl w y p b1 g1 b2 g2 A A s rs → Fx y c0 c1 c2 c3 cc c4 c5 p g1 x2 late false n → Dfr D y → Dfr D2 y → Bsy rec2 l2 y → SetW y ⟨c2, 0, none⟩ [.bool true] y' → Upd (fun i => i = l2) y' y'' → Lft rec2 l2 .ret y'' →
          ∃ A s rs, Pl w y'' p b1 g1 b2 g2 A A s rs ∧ Dfr D y'' ∧ Dfr D2 y'' ∧ ((Rdy rec2 l2 y'' ∧ Fx y'' c0 c1 c2 c3 cc c4 c5 p g1 x2 late false ((allT A).1.length : Nat)) ∨ (Lft rec2 l2 .ret y'' ∧ ∃ n, Fx y'' c0 c1 c2 c3 cc c4 c5 p g1 x2 late true n)) := by
        intro y y' y'' A s rs n hpl hfx hd1 hd2 hb hs hu hl
        have us : Upd (fun i => i = c2) y y' := hs.upd
        have hfx' : Fx y' c0 c1 c2 c3 cc c4 c5 p g1 x2 late true n := ⟨hfx.k0.upd us (by omega), hfx.k1.upd us (by omega), hs.blk1 hfx.k2, hfx.k3.upd us (by omega), hfx.k5.upd us (by omega), hfx.k4.upd us (by omega), hfx.k6.upd us (by omega)⟩
        have hpl' := hpl.keep us (by omega) (own_blk_ne hpl.ow hfx.k2 (by decide)) (by omega)
        have hb' := hb.upd us (by omega)
        exact ⟨A, s, rs, hpl'.keep hu (by omega) (fun q hq => own_obj hpl'.ow hb' (by intro cs h; cases h) q hq) (by omega), (hd1.upd us (by omega)).upd hu (by omega), (hd2.upd us (by omega)).upd hu (by omega), .inr ⟨hl, n, hfx'.keep hu (by omega)⟩⟩
      -- and here it goes on
      have next : ∀ {y y' y'' : World} {A : Ar} {s : Sl} {rs : List Nat} {m' : List Ob}, Pl w y p b1 g1 b2 g2 A A s rs → rs.length ≤ script.n + (m.length + 1) → m'.length = m.length + 1 → Path A A.use.f m' (k + hd.l.toNat + 2) → Fx y c0 c1 c2 c3 cc c4 c5 p g1 x2 late false (m.length : Nat) → Dfr D y → Dfr D2 y → Bsy rec2 l2 y → Upd (fun i => i < W.heap.size) W' y →
          SetW y ⟨c5, 0, none⟩ [.int .i64 (IntKind.i64.wrap (((m.length : Nat) : Int) + 1))] y' → Bsy rec2 l2 y' ∧ ∀ y'', Upd (fun i => i = l2) y' y'' → y''.heap.size = y'.heap.size → Rdy rec2 l2 y'' → (true = false → ∃ A s rs, Pl w y'' p b1 g1 b2 g2 A A s rs ∧ Dfr D y'' ∧ Dfr D2 y'' ∧ ((Rdy rec2 l2 y'' ∧ Fx y'' c0 c1 c2 c3 cc c4 c5 p g1 x2 late false ((allT A).1.length : Nat)) ∨ (Lft rec2 l2 .ret y'' ∧ ∃ n, Fx y'' c0 c1 c2 c3 cc c4 c5 p g1 x2 late true n))) ∧
          (true = true → (k + hd.l.toNat + 2 ≤ 131072 ∧ Blk y'' cc 32 [.pointer (some ⟨g1, 0, none⟩)] ∧ ∃ A s rs m, Pl w y'' p b1 g1 b2 g2 A A s rs ∧ rs.length ≤ script.n + m.length ∧ Path A A.use.f m (k + hd.l.toNat + 2) ∧ Fx y'' c0 c1 c2 c3 cc c4 c5 p g1 x2 late false (m.length : Nat) ∧ Dfr D y'' ∧ Dfr D2 y'' ∧ Rdy rec2 l2 y'') ∧ ∃ S, Upd S W' y'' ∧ ∀ k, S k → k < W.heap.size) := by
        intro y y' y'' A s rs m' hpl hrs' hm' hP' hfx hd1 hd2 hb hZ hs
        have us : Upd (fun i => i = c5) y y' := hs.upd
        have ek : IntKind.i64.wrap (((m.length : Nat) : Int) + 1) = ((m'.length : Nat) : Int) := by rw [wrap_i64 (by omega) (by omega)]; omega
        rw [ek] at hs
        have hfx' : Fx y' c0 c1 c2 c3 cc c4 c5 p g1 x2 late false (m'.length : Nat) := ⟨hfx.k0.upd us (by omega), hfx.k1.upd us (by omega), hfx.k2.upd us (by omega), hfx.k3.upd us (by omega), hfx.k5.upd us (by omega), hfx.k4.upd us (by omega), hs.blk1 hfx.k6⟩
        have hpl' := hpl.keep us (by omega) (own_blk_ne hpl.ow hfx.k6 (by decide)) (by omega)
        have hb' := hb.upd us (by omega)
        refine ⟨hb', fun y'' hu hsz hR => ⟨fun h => (by cases h), fun _ => ⟨⟨?_, (hfx'.keep hu (by omega)).k5, A, s, rs, m', hpl'.keep hu (by omega) (fun q hq => own_obj hpl'.ow hb' (by intro cs h; cases h) q hq) (by omega), by omega, hP', hfx'.keep hu (by omega), (hd1.upd us (by omega)).upd hu (by omega), (hd2.upd us (by omega)).upd hu (by omega), hR⟩, fun i => i < W.heap.size, ?_, fun k h => h⟩⟩⟩
        · have := hP'.end_le hpl.a1.ok.use1.1; have := small hpl; omega
        · exact (hZ.fresh us (by rintro i rfl; exact .inr (by omega))).fresh hu (by rintro i rfl; exact .inr hlW)
      have plain : ∀ y', SetW y10 ⟨c5, 0, none⟩ [.int .i64 (IntKind.i64.wrap (((m.length : Nat) : Int) + 1))] y' → _ := fun y' hs => next (y'' := y') hW10 (by omega) (by rw [List.length_append, List.length_singleton]) (hP.snoc hst) fx10 hD10 hD210 hB10 Z10 hs
      refine ⟨_, cw10.cell 0, fun _ => ⟨_, fx10.k6.cell 0, fun h40 => ⟨_, cw10.cell 0, fx10.k2.canSet 0 (by simp), fun y11 s11 => ?_⟩, fun h40 => ⟨_, fx10.k6.cell 0, late, fx10.k1.cell 0, fun hlt2 => ?_, fun hge2 => ⟨_, fx10.k6.cell 0, fx10.k6.canSet 0 (by simp), fun y11 s11 => plain y11 s11⟩⟩⟩, fun hne => absurd (by omega) hne⟩
      · have e : ((((allT A).1.length : Nat) : Int) == ((sl.n : Nat) : Int)) = true := by rw [hsn]; simp
        rw [e] at s11
        have us : Upd (fun i => i = c2) y10 y11 := s11.upd
        exact ⟨hB10.upd us (by omega), fun y12 t12 e12 hL12 => ⟨fun _ => left hW10 fx10 hD10 hD210 hB10 s11 t12 hL12, fun h => (by cases h)⟩⟩
      obtain ⟨qo, o, cs, hqo, ok, hcells⟩ := hop3 m.length (by omega)
      refine ⟨late, fx10.k1.cell 0, _, fx10.k6.cell 0, by omega, by omega, qo, hqo, _, by rw [Int.toNat_natCast]; exact (hcells _ hW10.x).1, ⟨(pick_spec o.k 16 y10 ok.k.1 ok.k.2 (by decide)).mono ?_⟩⟩
      rintro e y11 ⟨rfl, rfl⟩
      refine ⟨_, rfl, fun h9 y12 q12 => ?_, fun h9 => ⟨_, fx10.k6.cell 0, fx10.k6.canSet 0 (by simp), fun y12 s12 => plain y12 s12⟩⟩
      have fx12 := fx10.ext q12.ext
      have hW12 := hW10.ext q12.ext
      have hb12 := hb10.ext q12.ext
      have hB12 := hB10.upd q12.ext not_false
      have hD12 := hD10.upd q12.ext not_false
      have hD212 := hD210.upd q12.ext not_false
      have Z12 := Z10.still' q12.ext
      refine ⟨fun _ => False, _, fun v' u' => (fx12.ext u').k3.cell 0, late, fun v' u' => (fx12.ext u').k1.cell 0, _, fun v' u' => (fx12.ext u').k6.cell 0, by omega, by omega, qo, hqo, _, _, _, _, _, o.c, _, _, _, _, rfl, fun v' u' => by rw [Int.toNat_natCast]; exact hcells _ (hW12.x.trans u'), ⟨(step_spec hW12 ok (by omega)).mono ?_⟩⟩
      rintro e y13 ⟨rfl, A', s', rs', h13, hrs13, U⟩
      have nps : ∀ g, c3 ≤ g → (∀ q, s.a = some q → q.block ≠ g) → ¬ PS b1 g1 b2 g2 p s g := by
        rintro g hg hs (e | e | e | e | e | ⟨q, hq, e⟩)
        · omega
        · omega
        · omega
        · omega
        · omega
        · exact hs q hq e.symm
      have fx13 := fx12.step hW12 nm U
      have hb13 := hb12.upd U (nps _ (by omega) (own_blk_ne hW12.ow hb12 (by decide)))
      have hB13 := hB12.upd U (nps _ (by omega) (own_obj hW12.ow hB12 (by intro cs h; cases h)))
      have hD13 := hD12.upd U (nps _ (by omega) (own_obj hW12.ow hD12 (by intro cs h; cases h)))
      have hD213 := hD212.upd U (nps _ (by omega) (own_obj hW12.ow hD212 (by intro cs h; cases h)))
      have Z13 : Upd (fun i => i < W.heap.size) W' y13 := Z12.fresh U (by
        rintro i (e | e | e | e | e | ⟨q, hq, e⟩)
        · exact .inr (by omega)
        · exact .inr (by omega)
        · exact .inr (by omega)
        · exact .inr (by omega)
        · exact .inr (by omega)
        · exact .inr (by have := (hW.ow.base q hq).2; omega))
      refine ⟨_, rfl, fun h => (by cases h), fun _ => ⟨_, fx13.k3.cell 0, _, rfl, _, h13.hd.cell 1, ⟨(rall_spec h13.a2).mono ?_⟩⟩⟩
      rintro e y14 ⟨now, rfl, hnn, o14, x14⟩
      refine ⟨now, _, rfl, fun y15 q15 => ?_⟩
      have x1315 := x14.trans q15.ext
      have fx15 := fx13.ext x1315
      have hW15 := h13.ext x1315
      have hb15 := hb13.ext x1315
      have hB15 := hB13.upd x1315 not_false
      have hD15 := hD13.upd x1315 not_false
      have hD215 := hD213.upd x1315 not_false
      have Z15 := Z13.still' x1315
      have o15 := o14.ext q15.ext
      obtain ⟨hPA', _⟩ := allT_path hW15.a1.ok
      have endd : ∀ y16, SetW y15 ⟨c2, 0, none⟩ [.bool true] y16 → Bsy rec2 l2 y16 ∧ ∀ y17, Upd (fun i => i = l2) y16 y17 → y17.heap.size = y16.heap.size → Lft rec2 l2 .ret y17 → (false = false → ∃ A s rs, Pl w y17 p b1 g1 b2 g2 A A s rs ∧ Dfr D y17 ∧ Dfr D2 y17 ∧ ((Rdy rec2 l2 y17 ∧ Fx y17 c0 c1 c2 c3 cc c4 c5 p g1 x2 late false ((allT A).1.length : Nat)) ∨ (Lft rec2 l2 .ret y17 ∧ ∃ n, Fx y17 c0 c1 c2 c3 cc c4 c5 p g1 x2 late true n))) ∧
          (false = true → (k + hd.l.toNat + 2 ≤ 131072 ∧ Blk y17 cc 32 [.pointer (some ⟨g1, 0, none⟩)] ∧ ∃ A s rs m, Pl w y17 p b1 g1 b2 g2 A A s rs ∧ rs.length ≤ script.n + m.length ∧ Path A A.use.f m (k + hd.l.toNat + 2) ∧ Fx y17 c0 c1 c2 c3 cc c4 c5 p g1 x2 late false (m.length : Nat) ∧ Dfr D y17 ∧ Dfr D2 y17 ∧ Rdy rec2 l2 y17) ∧ ∃ S, Upd S W' y17 ∧ ∀ k, S k → k < W.heap.size) := by
        intro y16 s16
        have us : Upd (fun i => i = c2) y15 y16 := s16.upd
        exact ⟨hB15.upd us (by omega), fun y17 t17 e17 hL => ⟨fun _ => left hW15 fx15 hD15 hD215 hB15 s16 t17 hL, fun h => (by cases h)⟩⟩
      refine ⟨fun _ => False, _, fun v' u' => (fx15.ext u').k6.cell 0, fun hge3 => ?_, fun hle3 => ⟨fx15.k2.canSet 0 (by simp), fun y16 s16 => endd y16 s16⟩⟩
      obtain ⟨ob, hob⟩ : ∃ ob, (allT A').1[m.length]? = some ob := ⟨_, List.getElem?_eq_getElem (by omega)⟩
      obtain ⟨qn, hqn, _⟩ := o15.rd.obj hob
      have celln : ∀ {v' : World}, Ext y15 v' → v'.cell? ((qn.add (((m.length : Nat) : Int).toNat * 5)).add 0) = some (.int .u64 (ob.1 : Nat)) ∧ v'.cell? (((qn.add (((m.length : Nat) : Int).toNat * 5)).add 1).add 0) = some (.int .i64 ob.2.k) ∧ v'.cell? (((qn.add (((m.length : Nat) : Int).toNat * 5)).add 1).add 1) = some (.int .i64 ob.2.t) ∧
          v'.cell? (((qn.add (((m.length : Nat) : Int).toNat * 5)).add 1).add 2) = some (.int .i64 ob.2.l) ∧ v'.cell? (((qn.add (((m.length : Nat) : Int).toNat * 5)).add 1).add 3) = some (.int .u64 (ob.2.r : Nat)) := fun x' => by
        obtain ⟨q', hq', hc⟩ := (o15.ext x').rd.obj hob
        rw [hqn] at hq'; injection hq' with hq'; subst hq'
        rw [Int.toNat_natCast]; exact hc
      refine ⟨_, fun v' u' => (fx15.ext u').k6.cell 0, by omega, by omega, qn, hqn, _, fun v' u' => (celln u').1, fun heq => ⟨_, fun v' u' => (fx15.ext u').k6.cell 0, by omega, by omega, qn, hqn, _, _, _, _, rfl, fun v' u' => (celln u').2, _, _, _, _, rfl, fun v' u' => ⟨(hb15.ext u').cell 0, (hb15.ext u').cell 1, (hb15.ext u').cell 2, (hb15.ext u').cell 3⟩, fun hh => ⟨fx15.k2.canSet 0 (by simp), fun y16 s16 => endd y16 s16⟩, fun heq2 => ⟨_, fx15.k6.cell 0, fx15.k6.canSet 0 (by simp), fun y16 s16 => ?_⟩⟩, fun hne => ⟨fx15.k2.canSet 0 (by simp), fun y16 s16 => endd y16 s16⟩⟩
      have eob : ob = (k + 1, hd) := by
        obtain ⟨⟨⟨e1, e2⟩, e3⟩, e4⟩ := heq2
        obtain ⟨o1, ⟨ok1, ot1, ol1, or1⟩⟩ := ob
        obtain ⟨hk1, ht1, hl1', hr1⟩ := hd
        dsimp only at e1 e2 e3 e4 heq
        subst e1 e2 e3
        have h5 : o1 = k + 1 := by omega
        have h6 : or1 = hr1 := by omega
        rw [h5, h6]
      rw [eob] at hob
      exact next (y'' := y16) hW15 (by omega) (by rw [List.length_take]; omega) (hPA'.take hob) fx15 hD15 hD215 hB15 Z15 s16
    rintro e v11 ⟨rfl, A', s', rs', hv11, hD11, hD211, hpost⟩
    refine ⟨_, rfl, ?_⟩
    have hDD : D ≠ D2 := by omega
    have hc511 : ∀ {b n}, Fx v11 c0 c1 c2 c3 cc c4 c5 p g1 x2 late b n → c5 < v11.heap.size := fun fx => fx.k6.lt
    have hDl11 := hD11.lt; have hD2l11 := hD211.lt
    rcases hpost with ⟨hR11, fx11⟩ | ⟨hL11, n', fx11⟩
    · refine .inl ⟨hR11, fun v12 u12 q12 => ?_⟩
      have fx12 := fx11.keep u12 (by omega)
      have hv12 := hv11.keep u12 (by omega) (fun q hq => own_obj hv11.ow hR11 (by intro cs h; cases h) q hq) (by omega)
      refine ⟨_, fx12.k3.cell 0, _, rfl, _, hv12.hd.cell 1, ⟨(rall_spec hv12.a2).mono ?_⟩⟩
      rintro e v13 ⟨sl, rfl, hsn, o13, x13'⟩
      have fx13 := fx12.ext x13'
      have hv13 := hv12.ext x13'
      refine ⟨sl, _, rfl, _, fx13.k6.cell 0, fx13.k2.canSet 0 (by simp), fun v14 s14 => ?_⟩
      have e : ((((allT A').1.length : Nat) : Int) == ((sl.n : Nat) : Int)) = true := by rw [hsn]; simp
      rw [e] at s14
      have k214 := s14.blk1 fx13.k2
      have u14 : Upd (fun i => i = c2) v13 v14 := s14.upd
      refine ⟨⟨by rintro (h | h); omega; exact h, fun h => h⟩, ⟨((hD211.upd u12 (by omega)).upd x13' not_false).upd u14 (by omega), ((hD11.upd u12 (by omega)).upd x13' not_false).upd u14 (by omega)⟩, fun v15 u15 q15 => ⟨_, (k214.upd u15 (by rintro (h | h | h); omega; omega; exact h)).cell 0, rfl, (hv13.x.fresh u14 (by rintro i rfl; omega)).fresh u15 (by rintro i (rfl | rfl | h); omega; omega; exact h.elim)⟩⟩
    · refine .inr ⟨hL11, fun v12 u12 q12 => ?_⟩
      have fx12 := fx11.keep u12 (by omega)
      have hv12 := hv11.keep u12 (by omega) (fun q hq => own_obj hv11.ow hL11 (by intro cs h; cases h) q hq) (by omega)
      refine ⟨⟨by rintro (h | h); omega; exact h, fun h => h⟩, ⟨hD211.upd u12 (by omega), hD11.upd u12 (by omega)⟩, fun v15 u15 q15 => ⟨_, (fx12.k2.upd u15 (by rintro (h | h | h); omega; omega; exact h)).cell 0, rfl, hv12.x.fresh u15 (by rintro i (rfl | rfl | h); omega; omega; exact h.elim)⟩⟩
end Go.Proofs.Ytcmmdaginkhomaa.V
