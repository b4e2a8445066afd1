/-
  The player: both heaps and the references; a known reference; the cells of a Make.
-/
import Derived.Test.YtggpomialmpgoaaHp4
import Derived.Test.YtggpomialmpgoaaTl2
import Derived.Test.YtggpomialmpgoaaRow
namespace Go.Proofs.Ytggpomialmpgoaa.V
open Go Go.RowKit
set_option linter.unusedVariables false
set_option linter.unusedSimpArgs false
set_option maxRecDepth 100000

/-- where things lie -/
structure Ad where
  P : Nat
  x : Nat
  b1 : Nat
  g1 : Nat
  r : Nat
  y : Nat
  b2 : Nat
  g2 : Nat
  fs : Sl
structure Pq (w0 w : World) (a : Ad) (H1 H2 : Hp) (s : Sl) (rs : List Nat) : Prop where
  h1 : HpW w a.x a.b1 a.g1 a.r H1
  h2 : RpW w a.y a.b2 a.g2 w0.heap.size a.fs H2
  hd : Blk w a.P 64 [.pointer (some ⟨a.x, 0, none⟩), .pointer (some ⟨a.y, 0, none⟩), .slice s.a s.n s.c]
  ow : Tl w w0.heap.size 35 s (uv rs)
  lt : ∀ v ∈ rs, v < 18446744073709551616
  o1 : H1.A.opn = false
  o2 : H2.A.opn = false
  fl : H2.fl.length ≤ 300
  ne : a.b1 ≠ a.b2
  o : ∀ q, s.a = some q → q.block ≠ a.b1 ∧ q.block ≠ a.b2
  lo : w0.heap.size ≤ a.P ∧ w0.heap.size ≤ a.x ∧ w0.heap.size ≤ a.b1 ∧ w0.heap.size ≤ a.g1 ∧ w0.heap.size ≤ a.y ∧ w0.heap.size ≤ a.b2 ∧ w0.heap.size ≤ a.g2
  xx : Ext w0 w
theorem tl_blk_ne {w : World} {B e g T : Nat} {s : Sl} {xs cs : List Value} (h : Tl w B e s xs) (hb : Blk w g T cs) (hne : e ≠ T) : ∀ p, s.a = some p → p.block ≠ g := by
  intro p hp
  rcases h.ex with ⟨ha, _⟩ | ⟨g', o, cs', ha, _, hb', _⟩
  · rw [hp] at ha; cases ha
  · rw [hp] at ha; injection ha with ha; subst ha
    exact hb'.ne hb hne
section
variable {w0 w w' : World} {a : Ad} {H1 H2 H' : Hp} {s : Sl} {rs : List Nat} {S : Nat → Prop}
theorem Pq.ext (h : Pq w0 w a H1 H2 s rs) (u : Ext w w') : Pq w0 w' a H1 H2 s rs :=
  ⟨h.h1.ext u, h.h2.ext u, h.hd.ext u, h.ow.ext u, h.lt, h.o1, h.o2, h.fl, h.ne, h.o, h.lo, h.xx.trans u⟩
theorem Pq.apart (h : Pq w0 w a H1 H2 s rs) : (a.P ≠ a.x ∧ a.P ≠ a.b1 ∧ a.P ≠ a.g1 ∧ a.P ≠ a.y ∧ a.P ≠ a.b2 ∧ a.P ≠ a.g2) ∧ (a.x ≠ a.y ∧ a.x ≠ a.b2 ∧ a.x ≠ a.g2 ∧ a.b1 ≠ a.y ∧ a.b1 ≠ a.g2 ∧ a.g1 ≠ a.y ∧ a.g1 ≠ a.b2 ∧ a.g1 ≠ a.g2) ∧ (a.r ≠ a.P ∧ a.r ≠ a.y ∧ a.r ≠ a.b2 ∧ a.r ≠ a.g2) ∧
    (∀ q, a.fs.a = some q → q.block ≠ a.P ∧ q.block ≠ a.x ∧ q.block ≠ a.b1 ∧ q.block ≠ a.g1) ∧ ∀ q, s.a = some q → q.block ≠ a.P ∧ q.block ≠ a.x ∧ q.block ≠ a.g1 ∧ q.block ≠ a.y ∧ q.block ≠ a.g2 :=
  ⟨⟨h.hd.ne h.h1.hd (by decide), h.hd.ne h.h1.ar.ws (by decide), h.hd.ne h.h1.ar.hd (by decide), h.hd.ne h.h2.hd (by decide), h.hd.ne h.h2.ar.ws (by decide), h.hd.ne h.h2.ar.hd (by decide)⟩,
   ⟨h.h1.hd.ne h.h2.hd (by decide), h.h1.hd.ne h.h2.ar.ws (by decide), h.h1.hd.ne h.h2.ar.hd (by decide), h.h1.ar.ws.ne h.h2.hd (by decide), h.h1.ar.ws.ne h.h2.ar.hd (by decide), h.h1.ar.hd.ne h.h2.hd (by decide), h.h1.ar.hd.ne h.h2.ar.ws (by decide), h.h1.ar.hd.ne h.h2.ar.hd (by decide)⟩,
   ⟨h.h1.mp.ne h.hd, h.h1.mp.ne h.h2.hd, h.h1.mp.ne h.h2.ar.ws, h.h1.mp.ne h.h2.ar.hd⟩,
   fun q hq => ⟨own_blk_ne h.h2.fo h.hd (by decide) q hq, own_blk_ne h.h2.fo h.h1.hd (by decide) q hq, own_blk_ne h.h2.fo h.h1.ar.ws (by decide) q hq, own_blk_ne h.h2.fo h.h1.ar.hd (by decide) q hq⟩,
   fun q hq => ⟨tl_blk_ne h.ow h.hd (by decide) q hq, tl_blk_ne h.ow h.h1.hd (by decide) q hq, tl_blk_ne h.ow h.h1.ar.hd (by decide) q hq, tl_blk_ne h.ow h.h2.hd (by decide) q hq, tl_blk_ne h.ow h.h2.ar.hd (by decide) q hq⟩⟩
theorem MapI.ne_tl {w : World} {r B e : Nat} {k : IntKind} {f : Int → Option Value} {s : Sl} {xs : List Value} (h : MapI w r k f) (ht : Tl w B e s xs) : ∀ p, s.a = some p → r ≠ p.block := by
  intro p hp
  rcases ht.ex with ⟨ha, _⟩ | ⟨g', o, cs', ha, _, hb', _⟩
  · rw [hp] at ha; cases ha
  · rw [hp] at ha; injection ha with ha; subst ha
    exact h.ne hb'
theorem nor3 {k a b c : Nat} (h1 : k ≠ a) (h2 : k ≠ b) (h3 : k ≠ c) : ¬ (k = a ∨ k = b ∨ k = c) := by
  rintro (h | h | h) <;> contradiction
theorem le3 {k a b c B : Nat} (h1 : B ≤ a) (h2 : B ≤ b) (h3 : B ≤ c) (h : k = a ∨ k = b ∨ k = c) : B ≤ k := by
  rcases h with h | h | h <;> subst h <;> assumption
theorem Pq.up1 (h : Pq w0 w a H1 H2 s rs) (u : Upd (fun k => k = a.b1 ∨ k = a.g1 ∨ k = a.x) w w') (h' : HpW w' a.x a.b1 a.g1 a.r H') (ho : H'.A.opn = false) : Pq w0 w' a H' H2 s rs := by
  obtain ⟨⟨p1, p2, p3, p4, p5, p6⟩, ⟨m1, m2, m3, m4, m5, m6, m7, m8⟩, n3, n4, n5⟩ := h.apart
  have hne := h.ne
  obtain ⟨l1, l2, l3, l4, l5, l6, l7⟩ := h.lo
  exact ⟨h', h.h2.upd u (nor3 m4.symm m6.symm m1.symm) (nor3 hne.symm m7.symm m2.symm) (nor3 m5.symm m8.symm m3.symm) (fun q hq => nor3 (n4 q hq).2.2.1 (n4 q hq).2.2.2 (n4 q hq).2.1), h.hd.upd u (nor3 p2 p3 p1), h.ow.upd u (fun q hq => nor3 (h.o q hq).1 (n5 q hq).2.2.1 (n5 q hq).2.1), h.lt, ho, h.o2, h.fl, h.ne, h.o, h.lo, h.xx.fresh u fun i hi => le3 l3 l4 l2 hi⟩
theorem Pq.up2 (h : Pq w0 w a H1 H2 s rs) (u : Upd (fun k => k = a.b2 ∨ k = a.g2 ∨ k = a.y) w w') (h' : RpW w' a.y a.b2 a.g2 w0.heap.size a.fs H') (ho : H'.A.opn = false) (hf : H'.fl.length ≤ 300) : Pq w0 w' a H1 H' s rs := by
  obtain ⟨⟨p1, p2, p3, p4, p5, p6⟩, ⟨m1, m2, m3, m4, m5, m6, m7, m8⟩, ⟨r1, r2, r3, r4⟩, n4, n5⟩ := h.apart
  have hne := h.ne
  obtain ⟨l1, l2, l3, l4, l5, l6, l7⟩ := h.lo
  exact ⟨h.h1.upd u (nor3 m2 m3 m1) (nor3 hne m5 m4) (nor3 m7 m8 m6) (nor3 r3 r4 r2), h', h.hd.upd u (nor3 p5 p6 p4), h.ow.upd u (fun q hq => nor3 (h.o q hq).2 (n5 q hq).2.2.2.2 (n5 q hq).2.2.2.1), h.lt, h.o1, ho, hf, h.ne, h.o, h.lo, h.xx.fresh u fun i hi => le3 l6 l7 l5 hi⟩
/-- other references are known from now on -/
theorem Pq.swap (h : Pq w0 w a H1 H2 s rs) {s' : Sl} {rs' : List Nat} {w1 w2 : World} {S : Nat → Prop} (x1 : Upd S w w1) (hS : ∀ k, S k → ∃ q, s.a = some q ∧ k = q.block) (t1 : Tl w1 w0.heap.size 35 s' (uv rs')) (hl' : ∀ v ∈ rs', v < 18446744073709551616) (ho' : ∀ q, s'.a = some q → q.block ≠ a.b1 ∧ q.block ≠ a.b2)
    (s2 : SetW w1 ⟨a.P, 2, none⟩ [.slice s'.a s'.n s'.c] w2) : Pq w0 w2 a H1 H2 s' rs' := by
  obtain ⟨⟨p1, p2, p3, p4, p5, p6⟩, ⟨m1, m2, m3, m4, m5, m6, m7, m8⟩, ⟨r1, r2, r3, r4⟩, n4, n5⟩ := h.apart
  obtain ⟨l1, l2, l3, l4, l5, l6, l7⟩ := h.lo
  have hmt := h.h1.mp.ne_tl h.ow
  have hb := h.ow.base
  have no : ∀ k, (∀ q, s.a = some q → q.block ≠ k) → ¬ S k := fun k hk hs => by obtain ⟨q, hq, e⟩ := hS k hs; exact hk q hq e.symm
  have u2 : Upd (fun k => k = a.P) w1 w2 := s2.upd
  have hd1 := h.hd.upd x1 (no _ fun q hq => (n5 q hq).1)
  have hd2 := s2.blk1 hd1
  simp only [List.set] at hd2
  have hne2 := tl_blk_ne t1 hd1 (by decide)
  have hfs : ∀ q, a.fs.a = some q → ∀ q', s.a = some q' → q.block ≠ q'.block := fun q hq q' hq' => by
    rcases h.ow.ex with ⟨ha, _⟩ | ⟨g', o, cs', ha, _, hb', _⟩
    · rw [hq'] at ha; cases ha
    · rw [hq'] at ha; injection ha with ha; subst ha
      exact own_blk_ne h.h2.fo hb' (by decide) q hq
  refine ⟨(h.h1.upd x1 (no _ fun q hq => (n5 q hq).2.1) (no _ fun q hq => (h.o q hq).1) (no _ fun q hq => (n5 q hq).2.2.1) (no _ fun q hq => (hmt q hq).symm)).upd u2 p1.symm p2.symm p3.symm r1,
    (h.h2.upd x1 (no _ fun q hq => (n5 q hq).2.2.2.1) (no _ fun q hq => (h.o q hq).2) (no _ fun q hq => (n5 q hq).2.2.2.2) (fun q hq => no _ fun q' hq' => (hfs q hq q' hq').symm)).upd u2 p4.symm p5.symm p6.symm (fun q hq => (n4 q hq).1),
    hd2, t1.upd u2 (fun q hq => hne2 q hq), hl', h.o1, h.o2, h.fl, h.ne, ho', h.lo, (h.xx.fresh x1 (fun k hk => by obtain ⟨q, hq, rfl⟩ := hS k hk; exact (hb q hq).1)).fresh u2 (by rintro k rfl; exact l1)⟩
/-- a block of words is written that is neither heap's -/
theorem Pq.upd (h : Pq w0 w a H1 H2 s rs) {nb : Nat} {cs : List Value} (u : Upd S w w') (hb : Blk w nb 35 cs) (hS : ∀ k, S k → k = nb) (n1 : nb ≠ a.b1) (n2 : nb ≠ a.b2) (hs : ∀ q, s.a = some q → q.block ≠ nb) (lo : w0.heap.size ≤ nb) : Pq w0 w' a H1 H2 s rs := by
  have no : ∀ k, k ≠ nb → ¬ S k := fun k hk hs => hk (hS k hs)
  exact ⟨h.h1.upd u (no _ (h.h1.hd.ne hb (by decide))) (no _ n1.symm) (no _ (h.h1.ar.hd.ne hb (by decide))) (no _ (h.h1.mp.ne hb)),
    h.h2.upd u (no _ (h.h2.hd.ne hb (by decide))) (no _ n2.symm) (no _ (h.h2.ar.hd.ne hb (by decide))) (fun q hq => no _ (own_blk_ne h.h2.fo hb (by decide) q hq)),
    h.hd.upd u (no _ (h.hd.ne hb (by decide))), h.ow.upd u (fun q hq => no _ (hs q hq)), h.lt, h.o1, h.o2, h.fl, h.ne, h.o, h.lo, h.xx.fresh u fun k hk => by rw [hS k hk]; exact lo⟩
theorem refs_any (h : Hd) (i : Int) (hr : h.r < 18446744073709551616) (w : World) : Calls Try.prog 40 #[hdV h, .int .i64 i] w fun e w' => ∃ bb : Bool, e = .returned (.bool bb) ∧ Ext w w' := by
  refine vc_40 _ _ _ _ _ _ _ ?_
  simp only [eq_self, false_or, or_false, true_and, and_true, decide_eq_true_eq, decide_eq_false_iff_not, gd_st, gd_sf, exists_eq_left', exists_eq_left, Option.some.injEq, Sl.eta, Nat.reduceLeDiff, Int.reduceLE, Int.reduceLT, Int.reduceEq, Int.reduceNe, Nat.reduceMul, Nat.reduceAdd, Nat.reduceSub, Int.toNat_natCast, beq_iff_eq, bne_iff_ne, beq_eq_false_iff_ne, bne_eq_false_iff_eq, pick_and, pick_or, Bool.and_eq_true, Bool.or_eq_true, Bool.and_eq_false_iff, Bool.or_eq_false_iff, ne_eq, not_false_eq_true, Bool.not_eq_true', Bool.not_eq_false', reduceCtorEq, Nat.le_refl, Nat.zero_mul, Nat.mul_one, Nat.zero_add, Int.reduceToNat, ones, one, add_mk, Decidable.not_not, cond_true, cond_false, true_implies, false_implies, implies_true, Bool.not_true, Bool.not_false]
  intro w1 n1
  have hb1 : HB w1 w.heap.size h := Blk.new n1
  have c0 := hb1.cell 0; have c2 := hb1.cell 2; have c3 := hb1.cell 3
  have key : 0 ≤ IntKind.u64.wrap i := by rw [wrap_u64']; omega
  exact ⟨_, c0, fun _ => ⟨_, c0, fun _ => ⟨_, c3, key, _, rfl, n1.ext⟩, fun _ => ⟨_, rfl, n1.ext⟩⟩, fun _ => ⟨_, rfl, n1.ext⟩⟩
/-- the reference that a number names, 0 behind the last -/
def refV (rs : List Nat) (c : Int) : Nat := rs.getD (pk c ((rs.length : Int) + 1)).toNat 0
theorem ref_spec (h : Pq w0 w a H1 H2 s rs) (c : Int) (h0 : -9223372036854775808 ≤ c) (h1 : c ≤ 9223372036854775807) (hl : rs.length ≤ 20000000000000) :
    Calls Try.prog 37 #[.pointer (some ⟨a.P, 0, none⟩), .int .i64 c] w fun e w' => e = .returned (.int .u64 (refV rs c : Nat)) ∧ refV rs c < 18446744073709551616 ∧ w' = w := by
  refine vc_37 _ _ _ _ ?_
  have hn := h.ow.rd.lenu
  simp only [eq_self, false_or, or_false, true_and, and_true, decide_eq_true_eq, decide_eq_false_iff_not, gd_st, gd_sf, exists_eq_left', exists_eq_left, Option.some.injEq, Sl.eta, Nat.reduceLeDiff, Int.reduceLE, Int.reduceLT, Int.reduceEq, Int.reduceNe, Nat.reduceMul, Nat.reduceAdd, Nat.reduceSub, Int.toNat_natCast, beq_iff_eq, bne_iff_ne, beq_eq_false_iff_ne, bne_eq_false_iff_eq, pick_and, pick_or, Bool.and_eq_true, Bool.or_eq_true, Bool.and_eq_false_iff, Bool.or_eq_false_iff, ne_eq, not_false_eq_true, Bool.not_eq_true', Bool.not_eq_false', reduceCtorEq, Nat.le_refl, Nat.zero_mul, Nat.mul_one, Nat.zero_add, Int.reduceToNat, ones, one, add_mk, Decidable.not_not, cond_true, cond_false, true_implies, false_implies, implies_true, Bool.not_true, Bool.not_false]
  have ew : IntKind.i64.wrap ((s.n : Int) + 1) = (s.n : Int) + 1 := wrap_i64 (by omega) (by omega)
  refine ⟨s, h.hd.cell 2, ?_⟩
  rw [ew]
  refine ⟨(pick_spec c ((s.n : Int) + 1) w h0 h1 (by omega)).mono ?_⟩
  rintro e w1 ⟨rfl, rfl⟩
  have hp := pk_lt (c := c) (n := (s.n : Int) + 1) (by omega)
  have er : refV rs c = rs.getD (pk c ((s.n : Int) + 1)).toNat 0 := by unfold refV; rw [hn]
  refine ⟨_, rfl, s, h.hd.cell 2, fun he => ?_, fun hne => ?_⟩
  · have e0 : refV rs c = 0 := by rw [er, he, Int.toNat_natCast, List.getD_eq_getElem?_getD, List.getElem?_eq_none (by omega)]; rfl
    rw [e0]; exact ⟨rfl, by decide, rfl⟩
  obtain ⟨q, x, hq, hx, hc⟩ := h.ow.rd.word (pk c ((s.n : Int) + 1)).toNat (by omega)
  rw [Nat.mul_one] at hc
  have e0 : refV rs c = x := by rw [er, List.getD_eq_getElem?_getD, hx]; rfl
  rw [e0]
  exact ⟨s, h.hd.cell 2, hp.1, by omega, q, hq, _, hc, rfl, h.lt x (List.mem_of_getElem? hx), rfl⟩
end
end Go.Proofs.Ytggpomialmpgoaa.V
