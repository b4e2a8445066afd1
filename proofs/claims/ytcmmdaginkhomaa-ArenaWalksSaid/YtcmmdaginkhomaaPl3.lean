/-
  The player's walk over All.
-/
import Derived.Test.YtcmmdaginkhomaaPl2
namespace Go.Proofs.Ytcmmdaginkhomaa.V
open Go Go.RowKit
set_option linter.unusedVariables false
set_option linter.unusedSimpArgs false
set_option maxRecDepth 100000

theorem Path.next {A : Ar} {a k e : Nat} {m l : List Ob} {h : Hd} (hm : Path A a m k) (hs : stT A A.use (k + 1) = some h) (hl : Path A a l e) (he : stT A A.use (e + 1) = none) : l[m.length]? = some (k + 1, h) := by
  obtain ⟨m', rfl, _⟩ := (hm.snoc hs).rest hl he
  rw [List.append_assoc, List.getElem?_append_right (Nat.le_refl _), Nat.sub_self]; rfl
structure Wk (w0 wS W : World) (c0 c1 c2 : Nat) (p b1 g1 b2 g2 : Nat) (A : Ar) (s : Sl) (rs : List Nat) (B : Nat) (sl : Sl) (m : Nat) : Prop where
  k0 : Blk W c0 4 [.bool false]
  k1 : Blk W c1 80 [.slice sl.a sl.n sl.c]
  k2 : Blk W c2 3 [.int .i64 (m : Nat)]
  o : Own W B 84 5 sl (objV (allT A).1)
  h : Pl w0 W p b1 g1 b2 g2 A A s rs
  e : Ext wS W
section
variable {w0 w : World} {p b1 g1 b2 g2 : Nat} {A : Ar} {s : Sl} {rs : List Nat} {o : OpV} {cs : List Nat}
theorem walks_spec (h : Pl w0 w p b1 g1 b2 g2 A A s rs) :
    Calls Try.prog 46 #[.pointer (some ⟨p, 0, none⟩)] w fun e w' => e = .returned (.bool true) ∧ Pl w0 w' p b1 g1 b2 g2 A A s rs ∧ Ext w w' := by
  refine vc_46 _ _ _ ?_
  have hap := h.apart; have hne := h.ne; have hlo := h.lo
  have hwl := h.x.size
  have hb1 := h.a1.ws.lt; have hg1 := h.a1.hd.lt; have hb2 := h.a2.ws.lt; have hg2 := h.a2.hd.lt; have hp := h.hd.lt
  have hrs := h.ow.base
  have hn := h.a1.ok.n; have hi := h.a1.ok.useIn
  obtain ⟨hP, hE⟩ := allT_path h.a1.ok
  have hPl := hP.len; have hPe := hP.end_le h.a1.ok.use1.1
  simp only [eq_self, false_or, or_false, true_and, and_true, decide_eq_true_eq, decide_eq_false_iff_not, gd_st, gd_sf, exists_eq_left', exists_eq_left, Option.some.injEq, Sl.eta, Nat.reduceLeDiff, Int.reduceLE, Int.reduceLT, Int.reduceEq, Int.reduceNe, Nat.reduceMul, Nat.reduceAdd, Nat.reduceSub, Int.toNat_natCast, beq_iff_eq, bne_iff_ne, beq_eq_false_iff_ne, bne_eq_false_iff_eq, pick_and, pick_or, Bool.and_eq_true, Bool.or_eq_true, Bool.and_eq_false_iff, Bool.or_eq_false_iff, ne_eq, not_false_eq_true, Bool.not_eq_true', Bool.not_eq_false', reduceCtorEq, Nat.le_refl, Nat.zero_mul, Nat.mul_one, Nat.zero_add, Int.reduceToNat, ones, one, add_mk, Decidable.not_not, cond_true, cond_false, true_implies, false_implies, implies_true, Bool.not_true, Bool.not_false]
  intro w1 n1
  have z1 := n1.size
  have h1 := h.ext n1.ext
  refine ⟨_, h1.hd.cell 1, ⟨(rall_spec h1.a2).mono ?_⟩⟩
  rintro e w2 ⟨sl, rfl, hsn, o2, x2⟩
  have z2 := x2.size
  have hob := o2.base
  refine ⟨sl, _, rfl, fun w3 n3 => ⟨(Blk.new n3).canSet 0 (by simp), fun w4 s4 => ?_⟩⟩
  have k14 := s4.blk1 (Blk.new n3)
  have z3 := n3.size; have z4 := s4.size
  have u4 : Upd (fun i => i = w2.heap.size) w3 w4 := s4.upd
  have h2 := h1.ext x2
  have h4 := (h2.ext n3.ext).keep u4 (by rintro i hi; omega) (by rintro q hq; have := hrs q hq; omega) (by rintro i rfl; omega)
  have o4 := (o2.ext n3.ext).upd u4 (by rintro q hq; have := hob q hq; omega)
  have k04 := (((Blk.new n1).ext x2).ext n3.ext).upd u4 (by omega)
  refine ⟨_, h4.hd.cell 0, ⟨(all_spec g1 w4).mono ?_⟩⟩
  rintro e w5 ⟨rfl, cc5, x5⟩
  have z5 := x5.size
  have zc := cc5.lt
  refine ⟨_, rfl, fun w6 n6 => ⟨(Blk.new n6).canSet 0 (by simp), fun w7 s7 => fun rec D l w8 u8 hDl hD hR hY => ?_⟩⟩
  have k27 := s7.blk1 (Blk.new n6)
  have z6 := n6.size; have z7 := s7.size
  have u7 : Upd (fun i => i = w5.heap.size) w6 w7 := s7.upd
  have h7 := ((h4.ext x5).ext n6.ext).keep u7 (by rintro i hi; omega) (by rintro q hq; have := hrs q hq; omega) (by rintro i rfl; omega)
  have o7 := ((o4.ext x5).ext n6.ext).upd u7 (by rintro q hq; have := hob q hq; omega)
  have k07 := ((k04.ext x5).ext n6.ext).upd u7 (by omega)
  have k17 := ((k14.ext x5).ext n6.ext).upd u7 (by omega)
  have cc7 := (cc5.ext n6.ext).upd u7 (by omega)
  have wk8 : Wk w0 w w8 w.heap.size w2.heap.size w5.heap.size p b1 g1 b2 g2 A s rs w1.heap.size sl 0 := ⟨k07.ext u8, k17.ext u8, k27.ext u8, o7.ext u8, h7.ext u8, ((((((n1.ext.trans x2).trans n3.ext).fresh u4 (by rintro i rfl; omega)).trans x5).trans n6.ext).fresh u7 (by rintro i rfl; omega)).trans u8⟩
  have keep : ∀ {W W' : World} {S : Nat → Prop} {m : Nat}, Upd S W W' → (∀ i, S i → w7.heap.size ≤ i) → Wk w0 w W w.heap.size w2.heap.size w5.heap.size p b1 g1 b2 g2 A s rs w1.heap.size sl m → Wk w0 w W' w.heap.size w2.heap.size w5.heap.size p b1 g1 b2 g2 A s rs w1.heap.size sl m := fun u hS k =>
    have no : ∀ i, i < w7.heap.size → ¬ _ := fun i hi hs => by have := hS i hs; omega
    ⟨k.k0.upd u (no _ (by omega)), k.k1.upd u (no _ (by omega)), k.k2.upd u (no _ (by omega)), k.o.upd u (fun q hq => no _ (by have := hob q hq; omega)), k.h.keep u (fun i hi => no _ (by omega)) (fun q hq => no _ (by have := hrs q hq; omega)) (fun i hi => by have := hS i hi; omega), k.e.fresh u fun i hi => by have := hS i hi; omega⟩
  have z8 := u8.size
  refine ⟨(all1_spec (c := w4.heap.size) (g := g1) (l := l)
    (fun k W => k ≤ 131072 ∧ Blk W w4.heap.size 32 [.pointer (some ⟨g1, 0, none⟩)] ∧ ∃ m, Path A A.use.f m k ∧ Wk w0 w W w.heap.size w2.heap.size w5.heap.size p b1 g1 b2 g2 A s rs w1.heap.size sl m.length ∧ Dfr D W ∧ Rdy rec l W)
    (fun W => Wk w0 w W w.heap.size w2.heap.size w5.heap.size p b1 g1 b2 g2 A s rs w1.heap.size sl (allT A).1.length ∧ Dfr D W ∧ Rdy rec l W) ?_ (h0 := wk8.h.a1) ⟨by omega, cc7.ext u8, [], .nil, wk8, hD, hR⟩).mono ?_⟩
  · rintro k W ⟨hk, hcc, m, hPm, wk, hDW, hRW⟩
    refine ⟨hk, hcc, b1, A, wk.h.a1, fun W' x => ⟨fun hst => ?_, fun hd hst => ?_⟩⟩
    · obtain ⟨em, _⟩ := hPm.uniq hst hP hE
      rw [← em]
      exact ⟨keep x (fun i h => h.elim) wk, hDW.upd x not_false, hRW.upd x not_false⟩
    have hin := stT_in hst
    have hl0 := hin.2.1.2.2.1
    have hl1 := hin.2.1.le
    have hlW := hRW.lt; have hDW' := hDW.lt; have zx := x.size; have hMW := hcc.lt
    have hnx := hPm.next hst hP hE
    have hmlt := (List.getElem?_eq_some_iff.1 hnx).1
    refine hY _ _ _ _ _ W' _ (hRW.upd x not_false) ?_
    intro v1 m1
    refine ⟨rfl, HB.can m1, fun v2 s2 => ?_⟩
    obtain ⟨hb2, y2⟩ := HB.made m1 s2
    have y2' : Ext W' v2 := y2
    have x2 := x.trans y2
    refine ⟨hRW.upd x2 not_false, fun v3 u3 q3 hB3 v4 q4 => ?_⟩
    have wk4 := keep q4.ext (fun i h => h.elim) (keep u3 (by rintro i rfl; omega) (keep x2 (fun i h => h.elim) wk))
    have hb4 := (hb2.upd u3 (by omega)).ext q4.ext
    have hB4 := hB3.upd q4.ext not_false
    have ua : Upd (fun i => i = l ∨ i = w5.heap.size) W' v4 := (y2'.toS.trans u3 fun i hi hn => ⟨hn, fun e => hn (.inl e)⟩).trans q4.ext fun i hi hn => ⟨hn, not_false⟩
    have hob4 : ∀ {v' : World}, Ext v4 v' → ∃ q, sl.a = some q ∧ v'.cell? ((q.add (m.length * 5)).add 0) = some (.int .u64 (k + 1 : Nat)) ∧ v'.cell? (((q.add (m.length * 5)).add 1).add 0) = some (.int .i64 hd.k) ∧ v'.cell? (((q.add (m.length * 5)).add 1).add 1) = some (.int .i64 hd.t) ∧
        v'.cell? (((q.add (m.length * 5)).add 1).add 2) = some (.int .i64 hd.l) ∧ v'.cell? (((q.add (m.length * 5)).add 1).add 3) = some (.int .u64 (hd.r : Nat)) := fun x' => ((wk4.o.ext x').rd.obj hnx)
    obtain ⟨q, hq, _⟩ := hob4 (Ext.refl v4)
    have cell : ∀ {v' : World}, Ext v4 v' → v'.cell? ((q.add (m.length * 5)).add 0) = some (.int .u64 (k + 1 : Nat)) ∧ v'.cell? (((q.add (m.length * 5)).add 1).add 0) = some (.int .i64 hd.k) ∧ v'.cell? (((q.add (m.length * 5)).add 1).add 1) = some (.int .i64 hd.t) ∧
        v'.cell? (((q.add (m.length * 5)).add 1).add 2) = some (.int .i64 hd.l) ∧ v'.cell? (((q.add (m.length * 5)).add 1).add 3) = some (.int .u64 (hd.r : Nat)) := fun x' => by
      obtain ⟨q', hq', hc⟩ := hob4 x'
      rw [hq] at hq'; injection hq' with hq'; subst hq'; exact hc
    have em : ((m.length : Nat) : Int).toNat = m.length := Int.toNat_natCast _
    refine ⟨fun _ => False, _, fun v' u' => (wk4.k2.ext u').cell 0, sl, fun v' u' => (wk4.k1.ext u').cell 0, fun hge => ⟨sl, fun v' u' => (wk4.k1.ext u').cell 0, _, fun v' u' => (wk4.k2.ext u').cell 0, by omega, by omega, q, hq, _, fun v' u' => by rw [em]; exact (cell u').1, fun _ => ⟨_, _, _, _, rfl, fun v' u' => ⟨(hb4.ext u').cell 0, (hb4.ext u').cell 1, (hb4.ext u').cell 2, (hb4.ext u').cell 3⟩,
      sl, fun v' u' => (wk4.k1.ext u').cell 0, _, fun v' u' => (wk4.k2.ext u').cell 0, by omega, by omega, q, hq, _, _, _, _, rfl, fun v' u' => by rw [em]; exact (cell u').2, fun hh => ?_, fun _ => ⟨_, wk4.k2.cell 0, wk4.k2.canSet 0 (by simp), fun v5 s5 => ?_⟩⟩, fun hne => absurd rfl hne⟩, fun hle => absurd hle (by omega)⟩
    · rcases hh with ((hh | hh) | hh) | hh <;> exact absurd rfl hh
    have k25 := s5.blk1 wk4.k2
    have ek : IntKind.i64.wrap ((m.length : Int) + 1) = ((m.length + 1 : Nat) : Int) := by rw [wrap_i64 (by omega) (by omega)]; omega
    rw [ek] at k25
    have u5 : Upd (fun i => i = w5.heap.size) v4 v5 := s5.upd
    have wk5 : Wk w0 w v5 w.heap.size w2.heap.size w5.heap.size p b1 g1 b2 g2 A s rs w1.heap.size sl (m ++ [(k + 1, hd)]).length := by
      rw [List.length_append, List.length_singleton]
      exact ⟨wk4.k0.upd u5 (by omega), wk4.k1.upd u5 (by omega), k25, wk4.o.upd u5 (by rintro q hq; have := hob q hq; omega), wk4.h.keep u5 (by rintro i hi; omega) (by rintro q hq; have := hrs q hq; omega) (by rintro i rfl; omega), wk4.e.fresh u5 (by rintro i rfl; omega)⟩
    refine ⟨hB4.upd u5 (by omega), fun v6 u6 q6 hR6 => ⟨fun h => (by cases h), fun _ => ?_⟩⟩
    have ub : Upd (fun i => i = l ∨ i = w5.heap.size) W' v6 := (ua.trans u5 fun i hi hn => ⟨hn, fun e => hn (.inr e)⟩).trans u6 fun i hi hn => ⟨hn, fun e => hn (.inl e)⟩
    exact ⟨⟨by omega, (hcc.ext x).upd ub (by omega), _, hPm.snoc hst, keep u6 (by rintro i rfl; omega) wk5, (hDW.upd x not_false).upd ub (by omega), hR6⟩, _, ub, fun i hi => by omega⟩
  rintro e w9 ⟨rfl, wk9, hD9, hR9⟩
  refine ⟨_, rfl, .inl ⟨hR9, fun w10 u10 q10 => ?_⟩⟩
  have wk10 := keep u10 (by rintro i rfl; omega) wk9
  refine ⟨_, wk10.k2.cell 0, sl, wk10.k1.cell 0, wk10.k0.canSet 0 (by simp), fun w11 s11 => ?_⟩
  have k11 := s11.blk1 wk10.k0
  have u11 : Upd (fun i => i = w.heap.size) w10 w11 := s11.upd
  have h11 := wk10.h.keep u11 (by rintro i hi; omega) (by rintro q hq; have := hrs q hq; omega) (by rintro i rfl; omega)
  have hD9' := hD9.lt
  refine ⟨fun h => h, (hD9.upd u10 (by omega)).upd u11 (by omega), fun w12 u12 q12 => ⟨_, (k11.upd u12 (by rintro (h | h); omega; exact h)).cell 0, rb (by rw [hsn]; simp), h11.keep u12 (by rintro i hi (h | h); omega; exact h) (by rintro q hq (h | h); have := hrs q hq; omega; exact h) (by rintro i (rfl | h); omega; exact h.elim), (wk10.e.fresh u11 (by rintro i rfl; omega)).fresh u12 (by rintro i (rfl | h); omega; exact h.elim)⟩⟩
end
end Go.Proofs.Ytcmmdaginkhomaa.V
