/-
  All: gone through by any body.
  The objects of an arena as a list, by the document's All; All of the arena.
  Which cells are references; Check by the document.
  Check of the arena: its map, and the first loop over All.
-/
import Derived.Test.YtggpomialmpgoaaArC
import Derived.Test.YtggpomialmpgoaaMaps
namespace Go.Proofs.Ytggpomialmpgoaa.V
open Go Go.RowKit
set_option linter.unusedVariables false
set_option linter.unusedSimpArgs false
set_option maxRecDepth 100000

theorem YieldW.mono {P : Program} {l : Nat} {args : Array Value} {w : World} {R R' : Bool → World → Prop} (h : YieldW P l args w R) (hR : ∀ b w', R b w' → R' b w') : YieldW P l args w R' := by
  obtain ⟨fn, tmps, assign, body, hy, hb⟩ := h.h
  exact ⟨⟨fn, tmps, assign, body, hy, hb.mono fun e w' ⟨b, he, hr⟩ => ⟨b, he, hR _ _ hr⟩⟩⟩
theorem all1_spec {c g l : Nat} (I : Nat → World → Prop) (Post : World → Prop)
    (hI : ∀ (at_ : Nat) (W : World), I at_ W → at_ ≤ 131072 ∧ Blk W c 29 [.pointer (some ⟨g, 0, none⟩)] ∧ ∃ b A, ArW 91 W b g A ∧ ∀ W', Ext W W' →
      (stT A A.use (at_ + 1) = none → Post W') ∧ ∀ h, stT A A.use (at_ + 1) = some h → YieldW Try.prog l #[.int .u64 (at_ + 1 : Nat), hdV h] W' fun b W2 => (b = false → Post W2) ∧
        (b = true → I (at_ + h.l.toNat + 2) W2 ∧ ∃ S, Upd S W' W2 ∧ ∀ k, S k → k < W.heap.size))
    {w : World} {b0 : Nat} {A0 : Ar} (h0 : ArW 91 w b0 g A0) (hw : I A0.use.f w) :
    Calls Try.prog 57 #[.func (.yield l) #[] #[], .pointer (some ⟨c, 0, none⟩)] w fun e w' => e = .returned (.tuple #[]) ∧ Post w' := by
  refine vc_57 _ _ _ _ ?_
  have hc0 := (hI _ _ hw).2.1
  simp only [eq_self, false_or, or_false, true_and, and_true, decide_eq_true_eq, decide_eq_false_iff_not, gd_st, gd_sf, exists_eq_left', exists_eq_left, Option.some.injEq, Sl.eta, Nat.reduceLeDiff, Int.reduceLE, Int.reduceLT, Int.reduceEq, Int.reduceNe, Nat.reduceMul, Nat.reduceAdd, Nat.reduceSub, Int.toNat_natCast, beq_iff_eq, bne_iff_ne, beq_eq_false_iff_ne, bne_eq_false_iff_eq, pick_and, pick_or, Bool.and_eq_true, Bool.or_eq_true, Bool.and_eq_false_iff, Bool.or_eq_false_iff, ne_eq, not_false_eq_true, Bool.not_eq_true', Bool.not_eq_false', reduceCtorEq, Nat.le_refl, Nat.zero_mul, Nat.mul_one, Nat.zero_add, Int.reduceToNat, ones, one, add_mk, Decidable.not_not, cond_true, cond_false, true_implies, false_implies, implies_true, Bool.not_true, Bool.not_false]
  refine ⟨_, hc0.cell 0, _, rfl, _, h0.hd.cell 2, fun n w' => ∃ k : Nat, n = k ∧ I k w', fun n _ => (131072 - n).toNat, ⟨_, rfl, hw⟩, ?_⟩
  rintro _ n w1 ⟨k, rfl, hk⟩
  obtain ⟨hk1, hc1, b1, A1, a1, hy⟩ := hI k w1 hk
  have hi := a1.ok.useIn
  have hn := a1.ok.n
  have er : IntKind.u64.wrap (IntKind.u64.wrap (k : Int) + 1) = ((k + 1 : Nat) : Int) := by
    rw [wrap_u64 (n := (k : Int)) (by omega) (by omega), wrap_u64 (by omega) (by omega)]; omega
  rw [er]
  refine ⟨fun a b w' => ∃ q, a = some ⟨q, 0, none⟩ ∧ w1.heap.size ≤ q ∧ b = (stT A1 A1.use (k + 1)).isSome ∧ HB w' q ((stT A1 A1.use (k + 1)).getD hd0) ∧ Ext w1 w', fun w2 q2 => ?_, ?_⟩
  · have x2 := q2.ext
    have c2 := hc1.ext x2
    have a2 := a1.ext x2
    have lc := c2.lt
    have lg := a2.hd.lt
    refine ⟨fun k => w2.heap.size ≤ k, _, fun w' u => (c2.upd u (by omega)).cell 0, _, fun w' u => (c2.upd u (by omega)).cell 0, _, rfl, _, _, rfl, fun w' u => ⟨(a2.hd.upd u (by omega)).cell 2, (a2.hd.upd u (by omega)).cell 3⟩, ⟨(in_spec a2 (s := A1.use) hi.2.1 hi.2.2 (r := k + 1) (by omega)).mono ?_⟩, fun w3 n3 => ⟨n3.ext.toS, ⟨(in_spec (a2.ext n3.ext) (s := A1.use) hi.2.1 hi.2.2 (r := k + 1) (by omega)).mono ?_⟩⟩⟩
    · rintro e w3 ⟨rfl, x3⟩
      have z3 := x3.size
      have z2 := x2.size
      refine ⟨_, _, _, _, _, rfl, x3.toS, fun w4 n4 => ⟨n4.ext.toS, rfl, HB.can n4, fun w5 s5 => ⟨s5.upd.mono fun i _ hn e => hn (by dsimp only at e; omega), ?_⟩⟩⟩
      obtain ⟨b5, y5⟩ := HB.made n4 s5
      exact ⟨_, rfl, by omega, rfl, b5, (x2.trans x3).trans y5⟩
    · rintro e w4 ⟨rfl, x4⟩
      have z2 := x2.size
      have b4 := (Blk.new n3).ext x4
      refine ⟨_, _, _, _, _, rfl, x4.toS, rfl, b4.canSetN 0 4 (by simp), fun w5 s5 => ⟨s5.upd.mono fun i _ hn e => hn (by dsimp only at e; omega), ?_⟩⟩
      have b5 : HB w5 w2.heap.size ((stT A1 A1.use (k + 1)).getD hd0) := HB.set b4 s5
      exact ⟨_, rfl, by omega, rfl, b5, x2.trans ((n3.ext.trans x4).fresh s5.upd (by rintro i rfl; exact Nat.le_refl _))⟩
  · rintro _ a b w2 ⟨q, rfl, hq, rfl, hb, x2⟩
    cases hst : stT A1 A1.use (k + 1) with
    | none => exact ⟨fun h => (by cases h), fun _ => (hy w2 x2).1 hst⟩
    | some h =>
      rw [hst] at hb
      have hb' : HB w2 q h := hb
      have hin := stT_in hst
      have hl0 := hin.2.1.2.2.1
      have hl1 := hin.2.1.le
      refine ⟨fun _ => ⟨_, rfl, _, _, _, _, rfl, ⟨hb'.cell 0, hb'.cell 1, hb'.cell 2, hb'.cell 3⟩, ((hy w2 x2).2 h hst).mono ?_⟩, fun h => (by cases h)⟩
      rintro b w3 ⟨h1, h2⟩
      refine ⟨h1, fun hbt => ?_⟩
      obtain ⟨h3, S, u, hS⟩ := h2 hbt
      have hb3 := hb'.upd u fun hh => by have := hS _ hh; omega
      have ek : IntKind.i64.wrap ((k : Int) + IntKind.i64.wrap (h.l + 2)) = ((k + h.l.toNat + 2 : Nat) : Int) := by
        rw [wrap_i64 (n := h.l + 2) (by omega) (by omega), wrap_i64 (by omega) (by omega)]; omega
      refine ⟨_, rfl, _, hb3.cell 2, ⟨_, ek, h3⟩, ?_⟩
      rw [ek]
      dsimp only
      omega
end Go.Proofs.Ytggpomialmpgoaa.V
namespace Go.Proofs.Ytggpomialmpgoaa.V
open Go Go.RowKit
set_option linter.unusedVariables false
set_option linter.unusedSimpArgs false
set_option maxRecDepth 100000

abbrev Ob := Nat × Hd
theorem Path.cons {A : Ar} {a e : Nat} {l : List Ob} {h : Hd} (hs : stT A A.use (a + 1) = some h) (p : Path A (a + h.l.toNat + 2) l e) : Path A a ((a + 1, h) :: l) e := by
  induction p with
  | nil => exact .snoc (l := []) .nil hs
  | snoc _ hs2 ih => exact .snoc ih hs2
theorem Path.len {A : Ar} {a e : Nat} {l : List Ob} (p : Path A a l e) : a + 2 * l.length ≤ e := by
  induction p with
  | nil => exact Nat.le_refl _
  | snoc _ _ ih => rw [List.length_append, List.length_singleton]; omega
theorem Path.at_ {A : Ar} {a e : Nat} {l : List Ob} (p : Path A a l e) : ∀ o ∈ l, a < o.1 ∧ o.1 ≤ e ∧ stT A A.use o.1 = some o.2 := by
  induction p with
  | nil => intro o h; cases h
  | snoc p hs ih =>
    intro o ho
    rcases List.mem_append.1 ho with h | h
    · have := ih o h; exact ⟨this.1, by omega, this.2.2⟩
    · rw [List.mem_singleton.1 h]; have := p.le; exact ⟨by dsimp only; omega, by dsimp only; omega, hs⟩
def walkT (A : Ar) : Nat → Nat → List Ob × Nat
  | 0, a => ([], a)
  | n + 1, a => match stT A A.use (a + 1) with
    | none => ([], a)
    | some h => ((a + 1, h) :: (walkT A n (a + h.l.toNat + 2)).1, (walkT A n (a + h.l.toNat + 2)).2)
/-- all objects, and where they end -/
def allT (A : Ar) : List Ob × Nat := walkT A (A.ws.length + 1) A.use.f
theorem walkT_path {A : Ar} : ∀ (n a : Nat), A.use.e < a + n → Path A a (walkT A n a).1 (walkT A n a).2 ∧ (stT A A.use ((walkT A n a).2 + 1) = none)
  | 0, a, h => ⟨.nil, by unfold stT; rw [if_neg]; show ¬ (A.use.f < a + 1 ∧ a + 1 ≤ A.use.e); omega⟩
  | n + 1, a, h => by
    unfold walkT
    cases hs : stT A A.use (a + 1) with
    | none => exact ⟨.nil, hs⟩
    | some hd =>
      obtain ⟨h1, h2⟩ := walkT_path (A := A) n (a + hd.l.toNat + 2) (by omega)
      exact ⟨.cons hs h1, h2⟩
theorem allT_path {A : Ar} (ok : A.Ok) : Path A A.use.f (allT A).1 (allT A).2 ∧ stT A A.use ((allT A).2 + 1) = none := by
  have := ok.useIn; have := ok.len
  exact walkT_path _ _ (by omega)
theorem allT_eq {A : Ar} (ok : A.Ok) {l : List Ob} {e : Nat} (h : Path A A.use.f l e) (hs : stT A A.use (e + 1) = none) : allT A = (l, e) := by
  obtain ⟨h1, h2⟩ := allT_path ok
  obtain ⟨h3, h4⟩ := h1.uniq h2 h hs
  exact Prod.ext h3 h4
abbrev obL (o : Ob) : List Value := .int .u64 (o.1 : Nat) :: hdL o.2
def objV (l : List Ob) : List Value := l.flatMap obL
theorem objV_append (l m : List Ob) : objV (l ++ m) = objV l ++ objV m := List.flatMap_append
theorem objV_length (l : List Ob) : (objV l).length = l.length * 5 := by
  induction l with
  | nil => rfl
  | cons o l ih => show (obL o ++ objV l).length = _; rw [List.length_append, ih]; show 5 + l.length * 5 = (l.length + 1) * 5; omega
theorem objV_ones (l : List Ob) : ∀ v ∈ objV l, one v := by
  intro v hv
  obtain ⟨o, _, h⟩ := List.mem_flatMap.1 hv
  simp only [obL, hdL, List.mem_cons, List.not_mem_nil, or_false] at h
  rcases h with rfl | rfl | rfl | rfl | rfl <;> exact trivial
theorem objV_at (l : List Ob) : ∀ (j : Nat) (o : Ob), l[j]? = some o → ∀ i : Nat, i < 5 → (objV l)[j * 5 + i]? = (obL o)[i]? := by
  induction l with
  | nil => intro j o h; cases h
  | cons x l ih =>
    intro j o h i hi
    show (obL x ++ objV l)[j * 5 + i]? = _
    have hx : (obL x).length = 5 := rfl
    cases j with
    | zero =>
      injection h with h; subst h
      rw [List.getElem?_append_left (by omega)]
      congr 1; omega
    | succ j =>
      rw [List.getElem?_append_right (by omega), hx, show (j + 1) * 5 + i - 5 = j * 5 + i by omega]
      exact ih j o h i hi
/-- an object in a row of them -/
theorem Rd.obj {w : World} {s : Sl} {l : List Ob} (h : Rd w 5 s (objV l)) {j : Nat} {o : Ob} (ho : l[j]? = some o) :
    ∃ p, s.a = some p ∧ w.cell? ((p.add (j * 5)).add 0) = some (.int .u64 (o.1 : Nat)) ∧ w.cell? (((p.add (j * 5)).add 1).add 0) = some (.int .i64 o.2.k) ∧ w.cell? (((p.add (j * 5)).add 1).add 1) = some (.int .i64 o.2.t) ∧
      w.cell? (((p.add (j * 5)).add 1).add 2) = some (.int .i64 o.2.l) ∧ w.cell? (((p.add (j * 5)).add 1).add 3) = some (.int .u64 (o.2.r : Nat)) := by
  have hj := (List.getElem?_eq_some_iff.1 ho).1
  have hn := h.1
  rw [objV_length] at hn
  obtain ⟨p, hp, hc⟩ := h.2 (by omega)
  have e := objV_at l j o ho
  refine ⟨p, hp, ?_, ?_, ?_, ?_, ?_⟩ <;> rw [add_add] <;> try rw [add_add]
  · exact hc _ _ (e 0 (by decide))
  · exact hc _ _ (e 1 (by decide))
  · exact hc _ _ (e 2 (by decide))
  · exact hc _ _ (e 3 (by decide))
  · exact hc _ _ (e 4 (by decide))
theorem rall_spec {w : World} {b g : Nat} {A : Ar} (h : ArW 71 w b g A) :
    Calls Try.prog 60 #[.pointer (some ⟨g, 0, none⟩)] w fun e w' => ∃ s : Sl, e = .returned (.tuple #[.slice s.a s.n s.c, .int .i64 ((allT A).2 : Nat)]) ∧ s.n = (allT A).1.length ∧ Own w' w.heap.size 120 5 s (objV (allT A).1) ∧ Ext w w' := by
  refine vc_60 _ _ _ ?_
  have hi := h.ok.useIn
  have hn := h.ok.n
  simp only [eq_self, false_or, or_false, true_and, and_true, decide_eq_true_eq, decide_eq_false_iff_not, gd_st, gd_sf, exists_eq_left', exists_eq_left, Option.some.injEq, Sl.eta, Nat.reduceLeDiff, Int.reduceLE, Int.reduceLT, Int.reduceEq, Int.reduceNe, Nat.reduceMul, Nat.reduceAdd, Nat.reduceSub, Int.toNat_natCast, beq_iff_eq, bne_iff_ne, beq_eq_false_iff_ne, bne_eq_false_iff_eq, pick_and, pick_or, Bool.and_eq_true, Bool.or_eq_true, Bool.and_eq_false_iff, Bool.or_eq_false_iff, ne_eq, not_false_eq_true, Bool.not_eq_true', Bool.not_eq_false', reduceCtorEq, Nat.le_refl, Nat.zero_mul, Nat.mul_one, Nat.zero_add, Int.reduceToNat, ones, one, add_mk, Decidable.not_not, cond_true, cond_false, true_implies, false_implies, implies_true, Bool.not_true, Bool.not_false]
  refine ⟨_, h.hd.cell 2, fun s n w' => ∃ (l : List Ob) (k : Nat), n = k ∧ Path A A.use.f l k ∧ s.n = l.length ∧ Own w' w.heap.size 120 5 s (objV l) ∧ Ext w w', fun _ n _ => (131072 - n).toNat, ⟨[], _, rfl, .nil, rfl, Own.nil _ _ _ _, Ext.refl w⟩, ?_⟩
  rintro _ s n w1 ⟨l, k, rfl, hp, hsn, o1, x1⟩
  have hk := hp.end_le h.ok.use1.1
  have hle := hp.len
  have a1 := h.ext x1
  have er : IntKind.u64.wrap (IntKind.u64.wrap (k : Int) + 1) = ((k + 1 : Nat) : Int) := by
    rw [wrap_u64 (n := (k : Int)) (by omega) (by omega), wrap_u64 (by omega) (by omega)]; omega
  rw [er]
  refine ⟨_, _, rfl, ⟨a1.hd.cell 2, a1.hd.cell 3⟩, ⟨(rin_spec a1 (s := A.use) hi.2.1 hi.2.2 (r := k + 1) (by omega)).mono ?_⟩⟩
  rintro e w2 ⟨rfl, x2⟩
  refine ⟨_, _, _, _, _, rfl, fun w3 n3 => ⟨rfl, HB.can n3, fun w4 s4 => ?_⟩⟩
  obtain ⟨b4, y4⟩ := HB.made n3 s4
  have x14 := x2.trans y4
  have x04 := x1.trans x14
  have o4 := o1.ext x14
  cases hst : stT A A.use (k + 1) with
  | none =>
    refine ⟨fun _ => ?_, fun h => (by cases h)⟩
    have ea := allT_eq h.ok hp hst
    exact ⟨s, by rw [ea], by rw [ea]; exact hsn, by rw [ea]; exact o4, x04⟩
  | some hd =>
    rw [hst] at b4
    have b4' : HB w4 w2.heap.size hd := b4
    have hin := stT_in hst
    have hl0 := hin.2.1.2.2.1
    have hl1 := hin.2.1.le
    refine ⟨fun h => (by cases h), fun _ => ⟨_, _, _, _, rfl, ⟨b4'.cell 0, b4'.cell 1, b4'.cell 2, b4'.cell 3⟩, ⟨rfl, by simp [len', wr]⟩, by simp [len', wr, splice, rep], fun w5 n5 => ?_⟩⟩
    have rd5 : Rd w5 5 ⟨some ⟨w4.heap.size, 0, none⟩, 1, 1⟩ (objV [(k + 1, hd)]) := (Blk.new n5).rd (z := 5) (o := 0) (n := 1) (c := 1) (by simp)
    obtain ⟨r, w6, hr, hrn, o6, u6, _⟩ := (o4.ext n5.ext).append (t := 115) (ty := 115) tab_ok (by rfl) (by rfl) (by decide) rd5 (objV_ones _) (by dsimp only; omega) (by dsimp only; omega) (by have := x04.size; have := n5.ext.size; omega)
    have hoB := o4.base
    have z04 := x04.size
    have x06 : Ext w w6 := (x04.trans n5.ext).fresh u6 (by rintro i ⟨p, hp, rfl⟩; exact (hoB p hp).1)
    have b6 := (b4'.ext n5.ext).upd u6 (by
      rintro ⟨p, hp, he⟩
      have h1 := own_blk_ne o4 b4' (by decide) p hp
      exact h1 he.symm)
    have ek : IntKind.i64.wrap (IntKind.i64.wrap ((k : Int) + hd.l) + 2) = ((k + hd.l.toNat + 2 : Nat) : Int) := by
      rw [wrap_i64 (n := (k : Int) + hd.l) (by omega) (by omega), wrap_i64 (by omega) (by omega)]; omega
    refine ⟨r, w6, hr, _, b6.cell 2, ?_⟩
    rw [ek]
    refine ⟨⟨l ++ [(k + 1, hd)], _, rfl, hp.snoc hst, by rw [hrn, hsn]; simp, by rw [objV_append]; exact o6, x06⟩, by dsimp only; omega⟩
theorem all_spec (g : Nat) (w : World) :
    Calls Try.prog 35 #[.pointer (some ⟨g, 0, none⟩)] w fun e w' => e = .returned (.func (.func 57) #[] #[.pointer (some ⟨w.heap.size, 0, none⟩)]) ∧ Blk w' w.heap.size 29 [.pointer (some ⟨g, 0, none⟩)] ∧ Ext w w' := by
  refine vc_35 _ _ _ ?_
  simp only [eq_self, false_or, or_false, true_and, and_true, decide_eq_true_eq, decide_eq_false_iff_not, gd_st, gd_sf, exists_eq_left', exists_eq_left, Option.some.injEq, Sl.eta, Nat.reduceLeDiff, Int.reduceLE, Int.reduceLT, Int.reduceEq, Int.reduceNe, Nat.reduceMul, Nat.reduceAdd, Nat.reduceSub, Int.toNat_natCast, beq_iff_eq, bne_iff_ne, beq_eq_false_iff_ne, bne_eq_false_iff_eq, pick_and, pick_or, Bool.and_eq_true, Bool.or_eq_true, Bool.and_eq_false_iff, Bool.or_eq_false_iff, ne_eq, not_false_eq_true, Bool.not_eq_true', Bool.not_eq_false', reduceCtorEq, Nat.le_refl, Nat.zero_mul, Nat.mul_one, Nat.zero_add, Int.reduceToNat, ones, one, add_mk, Decidable.not_not, cond_true, cond_false, true_implies, false_implies, implies_true, Bool.not_true, Bool.not_false]
  intro w1 n1
  exact ⟨Blk.new n1, n1.ext⟩
end Go.Proofs.Ytggpomialmpgoaa.V
namespace Go.Proofs.Ytggpomialmpgoaa.V
open Go Go.RowKit
set_option linter.unusedVariables false
set_option linter.unusedSimpArgs false
set_option maxRecDepth 100000

def refT (h : Hd) (i : Nat) : Bool := h.k == 3 || (h.k == 1 && h.r / 2 ^ i % 2 == 1)
theorem bool_nat (n : Nat) : (((n : Nat) : Int) == 1) = (n == 1) := by
  rw [Bool.eq_iff_iff]; simp only [beq_iff_eq]; omega
theorem refs_spec (h : Hd) {i : Nat} (m : MayT h) (hi : (i : Int) < h.l) (w : World) : Calls Try.prog 40 #[hdV h, .int .i64 (i : Nat)] w fun e w' => e = .returned (.bool (refT h i)) ∧ Ext w w' := by
  refine vc_40 _ _ _ _ _ _ _ ?_
  have m1 := m.le; have m2 := m.kind
  simp only [eq_self, false_or, or_false, true_and, and_true, decide_eq_true_eq, decide_eq_false_iff_not, gd_st, gd_sf, exists_eq_left', exists_eq_left, Option.some.injEq, Sl.eta, Nat.reduceLeDiff, Int.reduceLE, Int.reduceLT, Int.reduceEq, Int.reduceNe, Nat.reduceMul, Nat.reduceAdd, Nat.reduceSub, Int.toNat_natCast, beq_iff_eq, bne_iff_ne, beq_eq_false_iff_ne, bne_eq_false_iff_eq, pick_and, pick_or, Bool.and_eq_true, Bool.or_eq_true, Bool.and_eq_false_iff, Bool.or_eq_false_iff, ne_eq, not_false_eq_true, Bool.not_eq_true', Bool.not_eq_false', reduceCtorEq, Nat.le_refl, Nat.zero_mul, Nat.mul_one, Nat.zero_add, Int.reduceToNat, ones, one, add_mk, Decidable.not_not, cond_true, cond_false, true_implies, false_implies, implies_true, Bool.not_true, Bool.not_false]
  intro w1 n1
  have k1 := Blk.new n1
  have x1 := n1.ext
  simp only [k1.cell, List.getElem?_cons_zero, List.getElem?_cons_succ, ex_sl, Value.int.injEq, Value.bool.injEq, Value.pointer.injEq, Value.string.injEq, eq_self, false_or, or_false, true_and, and_true, decide_eq_true_eq, decide_eq_false_iff_not, gd_st, gd_sf, exists_eq_left', exists_eq_left, Option.some.injEq, Sl.eta, Nat.reduceLeDiff, Int.reduceLE, Int.reduceLT, Int.reduceEq, Int.reduceNe, Nat.reduceMul, Nat.reduceAdd, Nat.reduceSub, Int.toNat_natCast, beq_iff_eq, bne_iff_ne, beq_eq_false_iff_ne, bne_eq_false_iff_eq, pick_and, pick_or, Bool.and_eq_true, Bool.or_eq_true, Bool.and_eq_false_iff, Bool.or_eq_false_iff, ne_eq, not_false_eq_true, Bool.not_eq_true', Bool.not_eq_false', reduceCtorEq, Nat.le_refl, Nat.zero_mul, Nat.mul_one, Nat.zero_add, Int.reduceToNat, ones, one, add_mk, Decidable.not_not, cond_true, cond_false, true_implies, false_implies, implies_true, Bool.not_true, Bool.not_false]
  unfold refT
  refine ⟨fun h1 => ⟨fun h2 => ⟨?_, rb ?_, x1⟩, fun h2 => ⟨rb ?_, x1⟩⟩, fun h1 => ⟨rb ?_, x1⟩⟩
  · rw [wrap_u64 (by omega) (by omega)]; omega
  · have h3 : h.l ≤ 32 := by rcases m.2.2.2 with h | h <;> omega
    rw [wrap_u64 (by omega) (by omega), shr_nat .u64 h.r i (by show i ≤ 64; omega), Int.tmod_eq_emod_of_nonneg (Int.natCast_nonneg _), show ((h.r / 2 ^ i : Nat) : Int) % 2 = ((h.r / 2 ^ i % 2 : Nat) : Int) by omega, bool_nat, h2]
    rfl
  · have e1 : (h.k == 3) = false := by simp [h1]
    have e2 : (h.k == 1) = false := by simp [h2]
    rw [e1, e2]; rfl
  · rw [h1]; rfl
theorem reference_spec (h : Hd) {i : Nat} (m : MayT h) (hi : (i : Int) < h.l) (w : World) : Calls Try.prog 36 #[hdV h, .int .i64 (i : Nat)] w fun e w' => e = .returned (.bool (refT h i)) ∧ Ext w w' := by
  refine vc_36 _ _ _ _ _ _ _ ?_
  have m1 := m.le; have m2 := m.kind; have m3 := m.lt
  simp only [eq_self, false_or, or_false, true_and, and_true, decide_eq_true_eq, decide_eq_false_iff_not, gd_st, gd_sf, exists_eq_left', exists_eq_left, Option.some.injEq, Sl.eta, Nat.reduceLeDiff, Int.reduceLE, Int.reduceLT, Int.reduceEq, Int.reduceNe, Nat.reduceMul, Nat.reduceAdd, Nat.reduceSub, Int.toNat_natCast, beq_iff_eq, bne_iff_ne, beq_eq_false_iff_ne, bne_eq_false_iff_eq, pick_and, pick_or, Bool.and_eq_true, Bool.or_eq_true, Bool.and_eq_false_iff, Bool.or_eq_false_iff, ne_eq, not_false_eq_true, Bool.not_eq_true', Bool.not_eq_false', reduceCtorEq, Nat.le_refl, Nat.zero_mul, Nat.mul_one, Nat.zero_add, Int.reduceToNat, ones, one, add_mk, Decidable.not_not, cond_true, cond_false, true_implies, false_implies, implies_true, Bool.not_true, Bool.not_false]
  intro w1 n1
  have k1 := Blk.new n1
  have x1 := n1.ext
  simp only [k1.cell, List.getElem?_cons_zero, List.getElem?_cons_succ, ex_sl, Value.int.injEq, Value.bool.injEq, Value.pointer.injEq, Value.string.injEq, eq_self, false_or, or_false, true_and, and_true, decide_eq_true_eq, decide_eq_false_iff_not, gd_st, gd_sf, exists_eq_left', exists_eq_left, Option.some.injEq, Sl.eta, Nat.reduceLeDiff, Int.reduceLE, Int.reduceLT, Int.reduceEq, Int.reduceNe, Nat.reduceMul, Nat.reduceAdd, Nat.reduceSub, Int.toNat_natCast, beq_iff_eq, bne_iff_ne, beq_eq_false_iff_ne, bne_eq_false_iff_eq, pick_and, pick_or, Bool.and_eq_true, Bool.or_eq_true, Bool.and_eq_false_iff, Bool.or_eq_false_iff, ne_eq, not_false_eq_true, Bool.not_eq_true', Bool.not_eq_false', reduceCtorEq, Nat.le_refl, Nat.zero_mul, Nat.mul_one, Nat.zero_add, Int.reduceToNat, ones, one, add_mk, Decidable.not_not, cond_true, cond_false, true_implies, false_implies, implies_true, Bool.not_true, Bool.not_false]
  unfold refT
  refine ⟨fun h1 => ⟨fun h2 => ⟨by omega, rb ?_, x1⟩, fun h2 => ⟨rb ?_, x1⟩⟩, fun h1 => ⟨rb ?_, x1⟩⟩
  · have h3 : h.l ≤ 32 := by rcases m.2.2.2 with h | h <;> omega
    have h4 : h.r / 2 ^ i < 18446744073709551616 := Nat.lt_of_le_of_lt (Nat.div_le_self _ _) (by omega)
    rw [shr_nat .u64 h.r i (by show i ≤ 64; omega), show (1 : Int) = ((1 : Nat) : Int) from rfl, and_u64 _ _ h4 (by decide), show h.r / 2 ^ i &&& 1 = h.r / 2 ^ i % 2 from Nat.and_two_pow_sub_one_eq_mod _ 1, h2]
    exact bool_nat _
  · have e1 : (h.k == 3) = false := by simp [h1]
    have e2 : (h.k == 1) = false := by simp [h2]
    rw [e1, e2]; rfl
  · rw [h1]; rfl
/-- does an object stand at x, or is it no reference -/
def thereT (l : List Ob) (x : Nat) : Bool := x == 0 || l.any fun o => o.1 == x
def badC (A : Ar) (l : List Ob) (o : Ob) (i : Nat) : Bool := refT o.2 i && !thereT l (A.ws.getD (o.1 + i) 0)
def badT (A : Ar) (l : List Ob) (o : Ob) : Bool := (List.range o.2.l.toNat).any (badC A l o)
def checkT (A : Ar) : Nat × Int :=
  if (allT A).2 = A.use.e then
    match (allT A).1.find? (badT A (allT A).1) with
    | some o => (o.1 - 1, 21)
    | none => (0, 0)
  else ((allT A).2, 21)
theorem badT_true {A : Ar} {l : List Ob} {o : Ob} {i : Nat} (hi : i < o.2.l.toNat) (h : badC A l o i = true) : badT A l o = true :=
  List.any_eq_true.2 ⟨i, List.mem_range.2 hi, h⟩
theorem badT_false {A : Ar} {l : List Ob} {o : Ob} (h : ∀ i, i < o.2.l.toNat → badC A l o i = false) : badT A l o = false := by
  rw [← Bool.not_eq_true]
  intro hh
  obtain ⟨i, h1, h2⟩ := List.any_eq_true.1 hh
  rw [h i (List.mem_range.1 h1)] at h2; cases h2
theorem find_at {α : Type} {p : α → Bool} {l : List α} {j : Nat} {o : α} (ho : l[j]? = some o) (hp : p o = true) (hb : ∀ (i : Nat) (x : α), i < j → l[i]? = some x → p x = false) : l.find? p = some o := by
  induction l generalizing j with
  | nil => cases ho
  | cons a l ih =>
    cases j with
    | zero => injection ho with ho; subst ho; rw [List.find?_cons_of_pos hp]
    | succ j =>
      have := hb 0 a (by omega) rfl
      rw [List.find?_cons_of_neg (by rw [this]; decide)]
      exact ih ho fun i x hi hx => hb (i + 1) x (by omega) hx
theorem find_none {α : Type} {p : α → Bool} {l : List α} (hb : ∀ (i : Nat) (x : α), l[i]? = some x → p x = false) : l.find? p = none := by
  rw [List.find?_eq_none]
  intro x hx
  obtain ⟨i, hi⟩ := List.mem_iff_getElem?.1 hx
  rw [hb i x hi]; decide
/-- the row of bools that Check fills -/
def marks (n : Nat) (l : List Ob) : List Value := (List.range n).map fun x => .bool (thereT l x)
theorem marks_length (n : Nat) (l : List Ob) : (marks n l).length = n := by simp [marks]
theorem marks_at {n : Nat} {l : List Ob} {x : Nat} (hx : x < n) : (marks n l)[x]? = some (.bool (thereT l x)) := by
  unfold marks; rw [List.getElem?_map, List.getElem?_range hx]; rfl
theorem marks_nil (n : Nat) (hn : 0 < n) : (List.replicate n (Value.bool false)).set 0 (.bool true) = marks n [] := by
  apply List.ext_getElem?
  intro j
  rw [List.getElem?_set]
  by_cases hj : j < n
  · rw [marks_at hj]
    by_cases h0 : 0 = j
    · subst h0; simp [hn, thereT]
    · rw [if_neg h0, List.getElem?_replicate, if_pos hj]
      have : (j == 0) = false := by simp; omega
      simp [thereT, this]
  · have e : (marks n [])[j]? = none := List.getElem?_eq_none (by rw [marks_length]; omega)
    rw [e, if_neg (by omega), List.getElem?_replicate, if_neg hj]
theorem marks_snoc {n : Nat} {l : List Ob} {o : Ob} (ho : o.1 < n) : (marks n l).set o.1 (.bool true) = marks n (l ++ [o]) := by
  apply List.ext_getElem?
  intro j
  rw [List.getElem?_set, marks_length]
  by_cases hj : j < n
  · rw [marks_at hj, marks_at hj]
    by_cases h0 : o.1 = j
    · subst h0; simp [ho, thereT]
    · rw [if_neg h0]
      have : (o.1 == j) = false := by simp; omega
      simp [thereT, this]
  · rw [List.getElem?_eq_none (by rw [marks_length]; omega), List.getElem?_eq_none (by rw [marks_length]; omega), if_neg (by omega)]
theorem take_snoc {α : Type} {l : List α} {j : Nat} {o : α} (h : l[j]? = some o) : l.take (j + 1) = l.take j ++ [o] := by
  rw [List.take_add_one, h]; rfl
theorem rcheck_spec {w : World} {b g : Nat} {A : Ar} (h : ArW 71 w b g A) :
    Calls Try.prog 44 #[.pointer (some ⟨g, 0, none⟩)] w fun e w' => e = .returned (.tuple #[.int .i64 ((checkT A).1 : Nat), .int .i64 (checkT A).2]) ∧ Ext w w' := by
  refine vc_44 _ _ _ ?_
  have hi := h.ok.useIn
  have hn := h.ok.n; have hlen := h.ok.len
  obtain ⟨hp, hend⟩ := allT_path h.ok
  have hpl := hp.len
  have hpe := hp.end_le h.ok.use1.1
  unfold checkT
  simp only [eq_self, false_or, or_false, true_and, and_true, decide_eq_true_eq, decide_eq_false_iff_not, gd_st, gd_sf, exists_eq_left', exists_eq_left, Option.some.injEq, Sl.eta, Nat.reduceLeDiff, Int.reduceLE, Int.reduceLT, Int.reduceEq, Int.reduceNe, Nat.reduceMul, Nat.reduceAdd, Nat.reduceSub, Int.toNat_natCast, beq_iff_eq, bne_iff_ne, beq_eq_false_iff_ne, bne_eq_false_iff_eq, pick_and, pick_or, Bool.and_eq_true, Bool.or_eq_true, Bool.and_eq_false_iff, Bool.or_eq_false_iff, ne_eq, not_false_eq_true, Bool.not_eq_true', Bool.not_eq_false', reduceCtorEq, Nat.le_refl, Nat.zero_mul, Nat.mul_one, Nat.zero_add, Int.reduceToNat, ones, one, add_mk, Decidable.not_not, cond_true, cond_false, true_implies, false_implies, implies_true, Bool.not_true, Bool.not_false]
  refine ⟨(rall_spec h).mono ?_⟩
  rintro e w1 ⟨s, rfl, hsn, o1, x1⟩
  have a1 := h.ext x1
  refine ⟨s, _, rfl, _, a1.hd.cell 3, fun hne => ⟨by rw [if_neg (by omega)], x1⟩, fun heq => ⟨_, a1.hd.cell 0, ?_⟩⟩
  have en : IntKind.i64.wrap (IntKind.i64.wrap (2 * (A.n : Int)) + 1) = ((2 * A.n + 1 : Nat) : Int) := by
    rw [wrap_i64 (n := 2 * (A.n : Int)) (by omega) (by omega), wrap_i64 (by omega) (by omega)]; omega
  rw [en]
  refine ⟨by omega, fun w2 n2 => ?_⟩
  have k2 : Blk w2 w1.heap.size 4 (List.replicate (2 * A.n + 1) (.bool false)) := by
    have := Blk.new n2
    rw [zrow_one, Int.toNat_natCast] at this
    simpa only [List.toList_toArray] using this
  rw [Int.toNat_natCast]
  have z1 := x1.size
  refine ⟨by omega, k2.canSet 0 (by simp), fun w3 s3 => ?_⟩
  have k3 := s3.blk1 k2
  rw [marks_nil _ (by omega)] at k3
  have own' : ∀ {w' w'' : World} {T : Nat} {cs : List Value}, Own w' w.heap.size 120 5 s (objV (allT A).1) → Blk w' w1.heap.size 4 cs → Upd (fun k => k = w1.heap.size) w' w'' → Own w'' w.heap.size 120 5 s (objV (allT A).1) := fun o k u =>
    o.upd u fun p hp he => own_blk_ne o k (by decide) p hp he
  have ext' : ∀ {w' w'' : World}, Ext w w' → Upd (fun k => k = w1.heap.size) w' w'' → Ext w w'' := fun x u => x.fresh u (by rintro i rfl; exact z1)
  refine ⟨fun n w' => ∃ j : Nat, n = j ∧ j ≤ (allT A).1.length ∧ Blk w' w1.heap.size 4 (marks (2 * A.n + 1) ((allT A).1.take j)) ∧ Own w' w.heap.size 120 5 s (objV (allT A).1) ∧ Ext w w', fun n _ => (s.n - n).toNat, ⟨0, rfl, by omega, k3, own' (T := 0) (o1.ext n2.ext) k2 s3.upd, ext' (x1.trans n2.ext) s3.upd⟩, ?_⟩
  rintro _ n w4 ⟨j, rfl, hj, k4, o4, x4⟩
  refine ⟨fun hlt => ⟨by omega, hlt, ?_⟩, fun hge => ?_⟩
  · obtain ⟨o, ho⟩ : ∃ o, (allT A).1[j]? = some o := ⟨_, List.getElem?_eq_getElem (by omega)⟩
    obtain ⟨p, hpa, hc, _⟩ := o4.rd.obj ho
    have hat := hp.at_ o (List.mem_of_getElem? ho)
    rw [Int.toNat_natCast]
    refine ⟨p, hpa, _, hc, by omega, by omega, ?_⟩
    rw [Int.toNat_natCast]
    refine ⟨k4.canSet _ (by rw [marks_length]; omega), fun w5 s5 => ?_⟩
    have k5 := s5.blk1 k4
    rw [marks_snoc (by omega), ← take_snoc ho] at k5
    have ej : IntKind.i64.wrap ((j : Int) + 1) = ((j + 1 : Nat) : Int) := by rw [wrap_i64 (by omega) (by omega)]; omega
    rw [ej]
    exact ⟨⟨j + 1, rfl, by omega, k5, own' (T := 0) o4 k4 s5.upd, ext' x4 s5.upd⟩, by dsimp only; omega⟩
  have ejL : j = (allT A).1.length := by omega
  rw [ejL, List.take_length] at k4
  refine ⟨fun n w' => ∃ j : Nat, n = j ∧ j ≤ (allT A).1.length ∧ (∀ (i : Nat) (x : Ob), i < j → (allT A).1[i]? = some x → badT A (allT A).1 x = false) ∧ Blk w' w1.heap.size 4 (marks (2 * A.n + 1) (allT A).1) ∧ Own w' w.heap.size 120 5 s (objV (allT A).1) ∧ Ext w w', fun n _ => (s.n - n).toNat, ⟨0, rfl, by omega, fun i x h => absurd h (by omega), k4, o4, x4⟩, ?_⟩
  rintro _ n w5 ⟨j, rfl, hj, hno, k5, o5, x5⟩
  refine ⟨fun hlt => ?_, fun hge => ⟨by
    rw [if_pos (by omega), find_none fun i x hx => hno i x (by have := (List.getElem?_eq_some_iff.1 hx).1; omega) hx]; rfl, x5⟩⟩
  obtain ⟨o, ho⟩ : ∃ o, (allT A).1[j]? = some o := ⟨_, List.getElem?_eq_getElem (by omega)⟩
  have hat := hp.at_ o (List.mem_of_getElem? ho)
  have hin := stT_in hat.2.2
  have hl0 := hin.2.1.2.2.1
  have hl1 := hin.2.1.le
  have ej : IntKind.i64.wrap ((j : Int) + 1) = ((j + 1 : Nat) : Int) := by rw [wrap_i64 (by omega) (by omega)]; omega
  refine ⟨fun n w' => ∃ i : Nat, n = i ∧ i ≤ o.2.l.toNat ∧ (∀ i', i' < i → badC A (allT A).1 o i' = false) ∧ Blk w' w1.heap.size 4 (marks (2 * A.n + 1) (allT A).1) ∧ Own w' w.heap.size 120 5 s (objV (allT A).1) ∧ Ext w w', fun n _ => (o.2.l - n).toNat, ⟨0, rfl, by omega, fun i h => absurd h (by omega), k5, o5, x5⟩, ?_⟩
  rintro _ n w6 ⟨i, rfl, hil, hnc, k6, o6, x6⟩
  obtain ⟨p, hpa, hc0, hc1, hc2, hc3, hc4⟩ := o6.rd.obj ho
  rw [Int.toNat_natCast]
  refine ⟨by omega, hlt, p, hpa, _, hc3, fun hil2 => ⟨by omega, hlt, p, hpa, _, _, _, _, rfl, ⟨hc1, hc2, hc3, hc4⟩, ⟨(refs_spec o.2 hin.2.1 hil2 w6).mono ?_⟩⟩, fun hil2 => ?_⟩
  rotate_left
  · rw [ej]
    refine ⟨⟨j + 1, rfl, by omega, fun i' x hi' hx => ?_, k6, o6, x6⟩, by dsimp only; omega⟩
    rcases Nat.lt_or_ge i' j with h1 | h1
    · exact hno i' x h1 hx
    · obtain rfl : i' = j := by omega
      rw [ho] at hx; injection hx with hx; subst hx
      exact badT_false fun i'' hi'' => hnc i'' (by omega)
  rintro e w7 ⟨rfl, x7⟩
  have a7 := h.ext (x6.trans x7)
  have k7 := k6.ext x7
  have o7 := o6.ext x7
  obtain ⟨p7, hpa7, hd0, _⟩ := o7.rd.obj ho
  have ea : IntKind.i64.wrap (IntKind.i64.wrap (o.1 : Int) + (i : Int)) = ((o.1 + i : Nat) : Int) := by
    rw [wrap_i64 (n := (o.1 : Int)) (by omega) (by omega), wrap_i64 (by omega) (by omega)]; omega
  refine ⟨_, rfl, ⟨some ⟨b, 0, none⟩, A.ws.length, A.ws.length⟩, a7.hd.cell 1, by omega, hlt, p7, hpa7, _, hd0, ?_⟩
  rw [ea, Int.toNat_natCast]
  refine ⟨by omega, by show ((o.1 + i : Nat) : Int) < ((A.ws.length : Nat) : Int); omega, _, rfl, _, a7.wordAt (by omega), fun w8 q8 => ?_⟩
  have x8 := (x6.trans x7).trans q8.ext
  have k8 := k7.ext q8.ext
  have o8 := o7.ext q8.ext
  obtain ⟨p8, hpa8, hd8, _⟩ := o8.rd.obj ho
  have ei : IntKind.i64.wrap ((i : Int) + 1) = ((i + 1 : Nat) : Int) := by rw [wrap_i64 (by omega) (by omega)]; omega
  have el : IntKind.u64.wrap (((2 * A.n + 1 : Nat)) : Int) = ((2 * A.n + 1 : Nat) : Int) := wrap_u64 (by omega) (by omega)
  have er : IntKind.i64.wrap (IntKind.i64.wrap (o.1 : Int) - 1) = ((o.1 - 1 : Nat) : Int) := by
    rw [wrap_i64 (n := (o.1 : Int)) (by omega) (by omega), wrap_i64 (by omega) (by omega)]; omega
  rw [ei, el]
  have good : badC A (allT A).1 o i = false → (∃ i' : Nat, ((i + 1 : Nat) : Int) = i' ∧ i' ≤ o.2.l.toNat ∧ (∀ i'', i'' < i' → badC A (allT A).1 o i'' = false) ∧ Blk w8 w1.heap.size 4 (marks (2 * A.n + 1) (allT A).1) ∧ Own w8 w.heap.size 120 5 s (objV (allT A).1) ∧ Ext w w8) := fun hg =>
    ⟨i + 1, rfl, by omega, fun i'' hi'' => by
      rcases Nat.lt_or_ge i'' i with h1 | h1
      · exact hnc i'' h1
      · obtain rfl : i'' = i := by omega
        exact hg, k8, o8, x8⟩
  have bad : badC A (allT A).1 o i = true → 0 ≤ ((j : Nat) : Int) ∧ ((j : Nat) : Int) < (s.n : Int) ∧ ∃ p, s.a = some p ∧ ∃ n, w8.cell? ((p.add (j * 5)).add 0) = some (.int .u64 n) ∧ (Ending.returned (.tuple #[.int .i64 (IntKind.i64.wrap (IntKind.i64.wrap n - 1)), .int .i64 21]) = .returned (.tuple #[.int .i64 (((if (allT A).2 = A.use.e then match (allT A).1.find? (badT A (allT A).1) with | some o => (o.1 - 1, (21 : Int)) | none => (0, 0) else ((allT A).2, 21)) : Nat × Int).1 : Nat), .int .i64 ((if (allT A).2 = A.use.e then match (allT A).1.find? (badT A (allT A).1) with | some o => (o.1 - 1, (21 : Int)) | none => (0, 0) else ((allT A).2, 21)) : Nat × Int).2]) ∧ Ext w w8) := fun hb =>
    ⟨by omega, hlt, p8, hpa8, _, hd8, by
      rw [if_pos (by omega), find_at ho (badT_true (by omega) hb) hno, er], x8⟩
  have ebc : badC A (allT A).1 o i = (refT o.2 i && !thereT (allT A).1 (A.ws.getD (o.1 + i) 0)) := rfl
  refine ⟨fun hr => ⟨fun hle => ?_, fun hle => ?_⟩, fun hr => ⟨good (by rw [ebc, hr]; rfl), by dsimp only; omega⟩⟩
  · rw [Int.toNat_natCast]
    refine ⟨by omega, by omega, _, (k8.cell _).trans (marks_at (by omega)), fun ht => ?_, fun ht => ?_⟩
    · exact bad (by rw [ebc, hr, ht]; rfl)
    · exact ⟨good (by rw [ebc, hr, ht]; rfl), by dsimp only; omega⟩
  · refine bad ?_
    rw [ebc, hr]
    have : thereT (allT A).1 (A.ws.getD (o.1 + i) 0) = false := by
      unfold thereT
      rw [← Bool.not_eq_true]
      intro hh
      rcases Bool.or_eq_true_iff.1 hh with h1 | h1
      · have := beq_iff_eq.1 h1; omega
      · obtain ⟨o', h2, h3⟩ := List.any_eq_true.1 h1
        have := hp.at_ o' h2
        have := beq_iff_eq.1 h3; omega
    rw [this]; rfl
end Go.Proofs.Ytggpomialmpgoaa.V
namespace Go.Proofs.Ytggpomialmpgoaa.V
open Go Go.RowKit
set_option linter.unusedVariables false
set_option linter.unusedSimpArgs false
set_option maxRecDepth 100000

section
variable {w w' : World} {rec : Rec} {l D : Nat} {S : Nat → Prop} {c : Code}
theorem at_upd {g : Nat} {o : Obj} (h : w.heap[g]? = some o) (u : Upd S w w') (hS : ¬ S g) : w'.heap[g]? = some o := by
  rw [u.block g (Array.getElem?_eq_some_iff.1 h).1 hS]; exact h
theorem Rdy.upd (h : Rdy rec l w) (u : Upd S w w') (hS : ¬ S l) : Rdy rec l w' := at_upd h u hS
theorem Bsy.upd (h : Bsy rec l w) (u : Upd S w w') (hS : ¬ S l) : Bsy rec l w' := at_upd h u hS
theorem Lft.upd (h : Lft rec l c w) (u : Upd S w w') (hS : ¬ S l) : Lft rec l c w' := at_upd h u hS
theorem Dfr.upd (h : Dfr D w) (u : Upd S w w') (hS : ¬ S D) : Dfr D w' := at_upd h u hS
theorem Rdy.lt (h : Rdy rec l w) : l < w.heap.size := (Array.getElem?_eq_some_iff.1 h).1
theorem Dfr.lt (h : Dfr D w) : D < w.heap.size := (Array.getElem?_eq_some_iff.1 h).1
end
/-- the map that Check fills: where objects stand -/
def fT (l : List Ob) : Int → Option Value := fun x => if (x == 0 || l.any fun o => (o.1 : Int) == x) = true then some (.int .i64 1) else none
theorem fT_nil : (fun m => if m = (0 : Int) then some (Value.int .i64 1) else (fun _ => none) m) = fT [] := by
  funext m; unfold fT; by_cases h : m = 0 <;> simp [h]
theorem fT_snoc (l : List Ob) (o : Ob) : (fun m => if m = (o.1 : Int) then some (Value.int .i64 1) else fT l m) = fT (l ++ [o]) := by
  funext m
  show (if m = (o.1 : Int) then _ else fT l m) = fT (l ++ [o]) m
  unfold fT
  rw [List.any_append]
  by_cases h : m = (o.1 : Int)
  · rw [if_pos h, h]; simp
  · have h1 : ([o].any fun o => (o.1 : Int) == m) = false := by simp; omega
    rw [if_neg h, h1, Bool.or_false]
theorem fT_at (l : List Ob) (x : Nat) : (fT l (x : Int)).getD (.int .i64 0) = .int .i64 (if thereT l x = true then 1 else 0) := by
  unfold fT thereT
  have h0 : (((x : Nat) : Int) == 0) = (x == 0) := by rw [Bool.eq_iff_iff]; simp only [beq_iff_eq]; omega
  have h1 : (l.any fun o => (o.1 : Int) == (x : Int)) = l.any fun o => o.1 == x := by
    congr 1; funext o; rw [Bool.eq_iff_iff]; simp only [beq_iff_eq]; omega
  rw [h0, h1]
  split <;> rfl
abbrev MapC (w : World) (r : Nat) (l : List Ob) : Prop := MapI w r .u64 (fT l)
theorem mp_und : Try.prog.underlying 97 = some (.map 35 3) := by kernel_rfl
theorem mp_key : Try.prog.underlying 35 = some (.int .u64) := by kernel_rfl
theorem mp_zero (w : World) : (zeroValue 3).run Try.prog w = .ok (.int .i64 0) w := by
  have hi : (Try.prog.info? 3).bind (·.zero) = some (.int .i64 0) := by kernel_rfl
  obtain ⟨i, hi, hz⟩ := Option.bind_eq_some_iff.1 hi
  simp only [zeroValue, typeInfo, Sem.run_bind, run_program, hi, Result.andThen_ok, Sem.run_pure, hz]
/-- the blocks that Check makes, one behind the other -/
structure CkN (w : World) (b g c0 c1 c2 c3 r c4 M : Nat) : Prop where
  h : b < w.heap.size ∧ g < w.heap.size ∧ w.heap.size ≤ c0 ∧ c0 < c1 ∧ c1 < c2 ∧ c2 < c3 ∧ c3 < r ∧ r < c4 ∧ c4 < M
structure Ck (w W : World) (b g c0 c1 c2 c3 r c4 M : Nat) (A : Ar) (L : List Ob) (p e k : Int) : Prop where
  n : CkN w b g c0 c1 c2 c3 r c4 M
  a : ArW 91 W b g A
  k0 : Blk W c0 29 [.pointer (some ⟨g, 0, none⟩)]
  k1 : Blk W c1 3 [.int .i64 p]
  k2 : Blk W c2 26 [.int .i64 e]
  k3 : Blk W c3 3 [.int .i64 k]
  k4 : Blk W c4 97 [.map (some r)]
  m : MapC W r L
  x : Ext w W
section
variable {w W W' : World} {b g c0 c1 c2 c3 r c4 M : Nat} {A : Ar} {L : List Ob} {p e k : Int} {S : Nat → Prop}
theorem Ck.up (h : Ck w W b g c0 c1 c2 c3 r c4 M A L p e k) (u : Upd S W W') (hS : ∀ i, S i → M ≤ i) : Ck w W' b g c0 c1 c2 c3 r c4 M A L p e k := by
  have hn := h.n.h
  have no : ∀ i, i < M → ¬ S i := fun i hi hs => by have := hS i hs; omega
  exact ⟨h.n, h.a.upd u (no _ (by omega)) (no _ (by omega)), h.k0.upd u (no _ (by omega)), h.k1.upd u (no _ (by omega)), h.k2.upd u (no _ (by omega)), h.k3.upd u (no _ (by omega)), h.k4.upd u (no _ (by omega)), h.m.upd u (no _ (by omega)),
    h.x.fresh u fun i hi => by have := hS i hi; omega⟩
theorem Ck.ext (h : Ck w W b g c0 c1 c2 c3 r c4 M A L p e k) (u : Ext W W') : Ck w W' b g c0 c1 c2 c3 r c4 M A L p e k := h.up u fun _ h => h.elim
theorem Ck.set1 (h : Ck w W b g c0 c1 c2 c3 r c4 M A L p e k) {p' : Int} (s : SetW W ⟨c1, 0, none⟩ [.int .i64 p'] W') : Ck w W' b g c0 c1 c2 c3 r c4 M A L p' e k := by
  have hn := h.n.h
  have u : Upd (fun i => i = c1) W W' := s.upd
  exact ⟨h.n, h.a.upd u (by omega) (by omega), h.k0.upd u (by omega), s.blk1 h.k1, h.k2.upd u (by omega), h.k3.upd u (by omega), h.k4.upd u (by omega), h.m.upd u (by omega), h.x.fresh u fun i hi => by omega⟩
theorem Ck.set2 (h : Ck w W b g c0 c1 c2 c3 r c4 M A L p e k) {e' : Int} (s : SetW W ⟨c2, 0, none⟩ [.int .i64 e'] W') : Ck w W' b g c0 c1 c2 c3 r c4 M A L p e' k := by
  have hn := h.n.h
  have u : Upd (fun i => i = c2) W W' := s.upd
  exact ⟨h.n, h.a.upd u (by omega) (by omega), h.k0.upd u (by omega), h.k1.upd u (by omega), s.blk1 h.k2, h.k3.upd u (by omega), h.k4.upd u (by omega), h.m.upd u (by omega), h.x.fresh u fun i hi => by omega⟩
theorem Ck.set3 (h : Ck w W b g c0 c1 c2 c3 r c4 M A L p e k) {k' : Int} (s : SetW W ⟨c3, 0, none⟩ [.int .i64 k'] W') : Ck w W' b g c0 c1 c2 c3 r c4 M A L p e k' := by
  have hn := h.n.h
  have u : Upd (fun i => i = c3) W W' := s.upd
  exact ⟨h.n, h.a.upd u (by omega) (by omega), h.k0.upd u (by omega), h.k1.upd u (by omega), h.k2.upd u (by omega), s.blk1 h.k3, h.k4.upd u (by omega), h.m.upd u (by omega), h.x.fresh u fun i hi => by omega⟩
theorem Ck.put (h : Ck w W b g c0 c1 c2 c3 r c4 M A L p e k) (o : Ob) : ∃ W', (Instr.mapUpdate 97 (.map (some r)) (.int .u64 (o.1 : Nat)) (.int .i64 1)).run Try.prog W = .ok () W' ∧ Ck w W' b g c0 c1 c2 c3 r c4 M A (L ++ [o]) p e k ∧ Upd (fun i => i = r) W W' := by
  obtain ⟨W', hr, m, u⟩ := h.m.put mp_und mp_key (o.1 : Nat) (.int .i64 1)
  rw [fT_snoc] at m
  have hn := h.n.h
  exact ⟨W', hr, ⟨h.n, h.a.upd u (by omega) (by omega), h.k0.upd u (by omega), h.k1.upd u (by omega), h.k2.upd u (by omega), h.k3.upd u (by omega), h.k4.upd u (by omega), m, h.x.fresh u fun i hi => by omega⟩, u⟩
end
theorem Path.find {A : Ar} {a j e : Nat} {m l : List Ob} {h : Hd} {p : Ob → Bool} (hm : Path A a m j) (hs : stT A A.use (j + 1) = some h) (hl : Path A a l e) (he : stT A A.use (e + 1) = none) (hno : ∀ o ∈ m, p o = false) (hp : p (j + 1, h) = true) :
    l.find? p = some (j + 1, h) := by
  obtain ⟨m', rfl, _⟩ := (hm.snoc hs).rest hl he
  have h1 : m.find? p = none := List.find?_eq_none.2 fun x hx => by rw [hno x hx]; decide
  rw [List.append_assoc, List.find?_append, h1, List.singleton_append, List.find?_cons_of_pos hp]; rfl
theorem check_spec {w : World} {b g : Nat} {A : Ar} (h : ArW 91 w b g A) :
    Calls Try.prog 20 #[.pointer (some ⟨g, 0, none⟩)] w fun e w' => e = .returned (.tuple #[.int .i64 ((checkT A).1 : Nat), .int .i64 (checkT A).2]) ∧ Ext w w' := by
  refine vc_20 _ _ _ ?_
  have hi := h.ok.useIn
  have hn := h.ok.n; have hlen := h.ok.len
  obtain ⟨hp, hend⟩ := allT_path h.ok
  have hpl := hp.len
  have hpe := hp.end_le h.ok.use1.1
  have ht : 91 ≠ 35 := by decide
  have hg0 := h.hd.lt; have hb0 := h.ws.lt
  simp only [eq_self, false_or, or_false, true_and, and_true, decide_eq_true_eq, decide_eq_false_iff_not, gd_st, gd_sf, exists_eq_left', exists_eq_left, Option.some.injEq, Sl.eta, Nat.reduceLeDiff, Int.reduceLE, Int.reduceLT, Int.reduceEq, Int.reduceNe, Nat.reduceMul, Nat.reduceAdd, Nat.reduceSub, Int.toNat_natCast, beq_iff_eq, bne_iff_ne, beq_eq_false_iff_ne, bne_eq_false_iff_eq, pick_and, pick_or, Bool.and_eq_true, Bool.or_eq_true, Bool.and_eq_false_iff, Bool.or_eq_false_iff, ne_eq, not_false_eq_true, Bool.not_eq_true', Bool.not_eq_false', reduceCtorEq, Nat.le_refl, Nat.zero_mul, Nat.mul_one, Nat.zero_add, Int.reduceToNat, ones, one, add_mk, Decidable.not_not, cond_true, cond_false, true_implies, false_implies, implies_true, Bool.not_true, Bool.not_false]
  intro w1 n1 w2 n2 w3 n3
  have x3 := (n1.ext.trans n2.ext).trans n3.ext
  have z1 := n1.size; have z2 := n2.size; have z3 := n3.size
  have c03 := (Blk.new n1).ext (n2.ext.trans n3.ext)
  have c13 := (Blk.new n2).ext n3.ext
  have c23 := Blk.new n3
  refine ⟨_, c03.cell 0, _, rfl, _, (h.ext x3).hd.cell 2, fun w4 n4 => ⟨(Blk.new n4).canSet 0 (by simp), fun w5 s5 => ⟨some w5.heap.size, ?_⟩⟩⟩
  have z4 := n4.size; have z5 := s5.size
  obtain ⟨w6, hr6, n6⟩ := run_makeMap (P := Try.prog) (w := w5) (mty := 97)
  obtain ⟨w7, hr7, m7, u7⟩ := (MapI.new (k := .u64) n6).put mp_und mp_key 0 (.int .i64 1)
  rw [fT_nil] at m7
  have z6 := n6.size
  refine ⟨w6, hr6, w7, hr7, fun w8 n8 => ⟨(Blk.new n8).canSet 0 (by simp), fun w9 s9 => ?_⟩⟩
  have z8 := n8.size; have z9 := s9.size
  have u5 : Upd (fun i => i = w3.heap.size) w4 w5 := s5.upd
  have u9 : Upd (fun i => i = w7.heap.size) w8 w9 := s9.upd
  have z7 : w6.heap.size ≤ w7.heap.size := u7.size
  have ck9 : Ck w w9 b g w.heap.size w1.heap.size w2.heap.size w3.heap.size w5.heap.size w7.heap.size w9.heap.size A [] 0 0 (A.use.f : Nat) := by
    have a4 := (h.ext x3).ext n4.ext
    have keep : ∀ {i : Nat} {o : Obj}, i < w4.heap.size → i ≠ w3.heap.size → w4.heap[i]? = some o → w9.heap[i]? = some o := fun hi hne ho =>
      at_upd (at_upd (at_upd (at_upd (at_upd ho u5 hne) n6.ext not_false) u7 (by omega)) n8.ext not_false) u9 (by omega)
    have x9 : Ext w w9 := ((((x3.trans n4.ext).fresh u5 (by rintro i rfl; omega)).trans n6.ext).fresh u7 (by rintro i rfl; omega) |>.trans n8.ext).fresh u9 (by rintro i rfl; omega)
    have k3 := ((((s5.blk1 (Blk.new n4)).ext n6.ext).upd u7 (by omega)).ext n8.ext).upd u9 (by omega)
    exact ⟨⟨by omega⟩, ⟨h.ok, keep (by have := a4.hd.lt; omega) (by omega) a4.hd, keep (by have := a4.ws.lt; omega) (by omega) a4.ws⟩, keep (by omega) (by omega) (c03.ext n4.ext), keep (by omega) (by omega) (c13.ext n4.ext), keep (by omega) (by omega) (c23.ext n4.ext), k3, s9.blk1 (Blk.new n8), (m7.upd n8.ext not_false).upd u9 (by omega), x9⟩
  refine ⟨_, ck9.k0.cell 0, ⟨(all_spec g w9).mono ?_⟩⟩
  rintro e w10 ⟨rfl, cc10, x10⟩
  have ck10 := ck9.ext x10
  have zc := cc10.lt
  refine ⟨_, rfl, fun rec D l w11 u11 hDl hD hR hY => ?_⟩
  have ck11 := ck10.ext u11
  have hn9 := ck9.n.h
  generalize hc1 : w1.heap.size = c1 at *
  generalize hc2 : w2.heap.size = c2 at *
  generalize hc3 : w3.heap.size = c3 at *
  generalize hcr : w5.heap.size = r at *
  generalize hc4 : w7.heap.size = c4 at *
  generalize hM : w9.heap.size = M at *
  have zM : M ≤ w10.heap.size := by have := x10.size; omega
  have z11 := u11.size
  refine ⟨(all1_spec (c := M) (g := g) (l := l)
    (fun k W => k ≤ 131072 ∧ Blk W M 29 [.pointer (some ⟨g, 0, none⟩)] ∧ ∃ L, Path A A.use.f L k ∧ Ck w W b g w.heap.size c1 c2 c3 r c4 M A L 0 0 (k : Nat) ∧ Dfr D W ∧ Rdy rec l W)
    (fun W => ∃ L k, Path A A.use.f L k ∧ stT A A.use (k + 1) = none ∧ Ck w W b g w.heap.size c1 c2 c3 r c4 M A L 0 0 (k : Nat) ∧ Dfr D W ∧ Rdy rec l W) ?_ (h0 := ck11.a) ⟨by omega, cc10.upd u11 not_false, [], .nil, ck11, hD, hR⟩).mono ?_⟩
  · rintro k W ⟨hk, hcc, L, hP, ck, hDW, hRW⟩
    refine ⟨hk, hcc, b, A, ck.a, fun W' x => ⟨fun hst => ⟨L, k, hP, hst, ck.ext x, hDW.upd x not_false, hRW.upd x not_false⟩, fun hd hst => ?_⟩⟩
    have hin := stT_in hst
    have hl0 := hin.2.1.2.2.1
    have hl1 := hin.2.1.le
    have hlW := hRW.lt; have hDW' := hDW.lt; have zx := x.size; have hMW := hcc.lt
    refine hY _ _ _ _ _ W' _ (hRW.upd x not_false) ?_
    intro v1 m1
    refine ⟨rfl, HB.can m1, fun v2 s2 => ?_⟩
    obtain ⟨hb2, y2⟩ := HB.made m1 s2
    have x2 := x.trans y2
    refine ⟨hRW.upd x2 not_false, fun v3 u3 q3 hB3 => ?_⟩
    have ck3 := (ck.ext x2).up u3 (by rintro i rfl; omega)
    have hb3 := hb2.upd u3 (by omega)
    obtain ⟨v4, hr4, ck4, u4⟩ := ck3.put (k + 1, hd)
    have hn := ck.n.h
    have hb4 := hb3.upd u4 (by omega)
    refine ⟨_, ck3.k4.cell 0, v4, hr4, _, hb4.cell 2, ck4.k3.canSet 0 (by simp), fun v5 s5 => ?_⟩
    have ek : IntKind.i64.wrap (IntKind.i64.wrap (IntKind.i64.wrap (IntKind.u64.wrap (((k + 1 : Nat) : Int) - 1)) + hd.l) + 2) = ((k + hd.l.toNat + 2 : Nat) : Int) := by
      rw [wrap_u64 (by omega) (by omega), wrap_i64 (n := ((k + 1 : Nat) : Int) - 1) (by omega) (by omega), wrap_i64 (n := ((k + 1 : Nat) : Int) - 1 + hd.l) (by omega) (by omega), wrap_i64 (by omega) (by omega)]; omega
    rw [ek] at s5
    have ck5 := ck4.set3 s5
    have u5' : Upd (fun i => i = c3) v4 v5 := s5.upd
    have hB5 := (hB3.upd u4 (by omega)).upd u5' (by omega)
    refine ⟨hB5, fun v6 u6 q6 hR6 => ⟨fun h => (by cases h), fun _ => ?_⟩⟩
    have ck6 := ck5.up u6 (by rintro i rfl; omega)
    have y2' : Ext W' v2 := y2
    have ua : Upd (fun i => i = l ∨ i = r ∨ i = c3) W' v6 :=
      (((y2'.toS.trans u3 fun i hi hn => ⟨hn, fun e => hn (.inl e)⟩).trans u4 fun i hi hn => ⟨hn, fun e => hn (.inr (.inl e))⟩).trans u5' fun i hi hn => ⟨hn, fun e => hn (.inr (.inr e))⟩).trans u6 fun i hi hn => ⟨hn, fun e => hn (.inl e)⟩
    refine ⟨⟨by omega, (hcc.ext x).upd ua (by omega), _, hP.snoc hst, ck6, (hDW.upd x not_false).upd ua (by omega), hR6⟩, _, ua, fun i hi => by omega⟩
  rintro e w12 ⟨rfl, L, k, hP, hst, ck12, hD12, hR12⟩
  have ea := allT_eq h.ok hP hst
  have hl12 := hR12.lt
  refine ⟨_, rfl, hR12, fun w13 u13 q13 => ?_⟩
  have ck13 := ck12.up u13 (by rintro i rfl; omega)
  refine ⟨_, ck13.k3.cell 0, _, ck13.k0.cell 0, _, rfl, _, ck13.a.hd.cell 3, fun w14 q14 => ?_⟩
  have ck14 := ck13.ext q14.ext
  have hD14 := (hD12.upd u13 (by omega)).upd q14.ext not_false
  have hn := ck14.n.h
  unfold checkT
  rw [ea] at hp hend hpl hpe ⊢
  refine ⟨fun hne => ?_, fun heq => ?_⟩
  · refine ⟨_, ck14.k3.cell 0, ck14.k1.canSet 0 (by simp), fun w15 s15 => ?_⟩
    have ck15 := ck14.set1 s15
    refine ⟨ck15.k2.canSet 0 (by simp), fun w16 s16 => ?_⟩
    have ck16 := ck15.set2 s16
    have u15 : Upd (fun i => i = c1) w14 w15 := s15.upd
    have u16 : Upd (fun i => i = c2) w15 w16 := s16.upd
    refine ⟨fun h => h, (hD14.upd u15 (by omega)).upd u16 (by omega), fun w17 u17 q17 => ?_⟩
    have ck17 := ck16.up u17 (by rintro i (rfl | hi); omega; exact hi.elim)
    refine ⟨_, ck17.k1.cell 0, _, ck17.k2.cell 0, ?_, ck17.x⟩
    rw [if_neg (by dsimp only; omega)]
  have hke : k = A.use.e := by omega
  refine ⟨_, ck14.k0.cell 0, ⟨(all_spec g w14).mono ?_⟩⟩
  rintro e w20 ⟨rfl, cc20, x20⟩
  have zc2 := cc20.lt
  have ck20 := ck14.ext x20
  have hD20 := hD14.upd x20 not_false
  have hD20' := hD20.lt; have hD14' := hD14.lt
  have z12 : w12.heap.size ≤ w14.heap.size := by have := q14.ext.size; omega
  generalize hN : w14.heap.size = N at *
  have zN : N ≤ w20.heap.size := by have := x20.size; omega
  refine ⟨_, rfl, fun rec2 D2 l2 w21 u21 hDl2 hD2 hR2 hY2 => ?_⟩
  have ck21 := ck20.ext u21
  have hD21 := hD20.upd u21 not_false
  have z21 := u21.size
  refine ⟨(all1_spec (c := N) (g := g) (l := l2)
    (fun j W => j ≤ 131072 ∧ Blk W N 29 [.pointer (some ⟨g, 0, none⟩)] ∧ ∃ m, Path A A.use.f m j ∧ (∀ o ∈ m, badT A L o = false) ∧ Ck w W b g w.heap.size c1 c2 c3 r c4 M A L 0 0 (k : Nat) ∧ Dfr D W ∧ Dfr D2 W ∧ Rdy rec2 l2 W)
    (fun W => (∃ m j, Path A A.use.f m j ∧ stT A A.use (j + 1) = none ∧ (∀ o ∈ m, badT A L o = false) ∧ Ck w W b g w.heap.size c1 c2 c3 r c4 M A L 0 0 (k : Nat) ∧ Dfr D W ∧ Dfr D2 W ∧ Rdy rec2 l2 W) ∨
      ∃ o : Ob, L.find? (badT A L) = some o ∧ Ck w W b g w.heap.size c1 c2 c3 r c4 M A L ((o.1 - 1 : Nat) : Int) 21 (k : Nat) ∧ Dfr D W ∧ Dfr D2 W ∧ Lft rec2 l2 .ret W) ?_ (h0 := ck21.a) ⟨by omega, cc20.upd u21 not_false, [], .nil, fun o h => (by cases h), ck21, hD21, hD2, hR2⟩).mono ?_⟩
  · rintro j W ⟨hk, hcc, m, hPm, hno, ck, hDW, hDW2, hRW⟩
    refine ⟨hk, hcc, b, A, ck.a, fun W' x => ⟨fun hst2 => .inl ⟨m, j, hPm, hst2, hno, ck.ext x, hDW.upd x not_false, hDW2.upd x not_false, hRW.upd x not_false⟩, fun hd hst2 => ?_⟩⟩
    have hin := stT_in hst2
    have hl0 := hin.2.1.2.2.1
    have hl1 := hin.2.1.le
    have hlW := hRW.lt; have hDW' := hDW.lt; have zx := x.size; have hMW := hcc.lt
    refine hY2 _ _ _ _ _ W' _ (hRW.upd x not_false) ?_
    intro v1 m1
    refine ⟨rfl, HB.can m1, fun v2 s2 => ?_⟩
    obtain ⟨hb2, y2⟩ := HB.made m1 s2
    have y2' : Ext W' v2 := y2
    have x2 := x.trans y2
    refine ⟨hRW.upd x2 not_false, fun v3 u3 q3 hB3 => ?_⟩
    have ck3 := (ck.ext x2).up u3 (by rintro i rfl; omega)
    have hb3 := hb2.upd u3 (by omega)
    have hD3 := (hDW.upd x2 not_false).upd u3 (by omega)
    have hD32 := (hDW2.upd x2 not_false).upd u3 (by omega)
    have ua : Upd (fun i => i = l2) W' v3 := y2'.toS.trans u3 fun i hi hn => ⟨hn, hn⟩
    obtain ⟨len, hlen'⟩ : ∃ n : Nat, hd.l = n := ⟨hd.l.toNat, by omega⟩
    refine ⟨_, hb3.cell 2, fun n v => ∃ i : Nat, n = i ∧ i ≤ len ∧ (∀ i', i' < i → badC A L (j + 1, hd) i' = false) ∧ Ck w v b g w.heap.size c1 c2 c3 r c4 M A L 0 0 (k : Nat) ∧ HB v W'.heap.size hd ∧ Dfr D v ∧ Dfr D2 v ∧ Bsy rec2 l2 v ∧ Upd (fun i => i = l2) W' v, fun n _ => (len - n).toNat,
      ⟨0, rfl, by omega, fun i' h => absurd h (by omega), ck3, hb3, hD3, hD32, hB3, ua⟩, ?_⟩
    rintro _ n v4 ⟨i, rfl, hil, hnc, ck4, hb4, hD4, hD42, hB4, ua4⟩
    refine ⟨fun hlt v5 q5 => ?_, fun hge => ?_⟩
    rotate_left
    · refine ⟨hB4, fun v6 u6 q6 hR6 => ⟨fun h => (by cases h), fun _ => ?_⟩⟩
      have ck6 := ck4.up u6 (by rintro i rfl; omega)
      have ub : Upd (fun i => i = l2) W' v6 := ua4.trans u6 fun i hi hn => ⟨hn, hn⟩
      refine ⟨⟨by omega, (hcc.ext x).upd ub (by omega), _, hPm.snoc hst2, fun o ho => ?_, ck6, (hDW.upd x not_false).upd ub (by omega), (hDW2.upd x not_false).upd ub (by omega), hR6⟩, _, ub, fun i hi => by omega⟩
      rcases List.mem_append.1 ho with ho | ho
      · exact hno o ho
      · rw [List.mem_singleton.1 ho]
        exact badT_false fun i' hi' => hnc i' (by dsimp only at hi'; omega)
    have hb5 := hb4.ext q5.ext
    refine ⟨fun _ => False, _, _, _, _, rfl, fun v' u' => ⟨(hb5.ext u').cell 0, (hb5.ext u').cell 1, (hb5.ext u').cell 2, (hb5.ext u').cell 3⟩, ⟨(reference_spec hd hin.2.1 hlt v5).mono ?_⟩⟩
    rintro e v6 ⟨rfl, x6⟩
    have x46 := q5.ext.trans x6
    have ck6 := ck4.ext x46
    have hb6 := hb4.ext x46
    have ei : IntKind.i64.wrap ((i : Int) + 1) = ((i + 1 : Nat) : Int) := by rw [wrap_i64 (by omega) (by omega)]; omega
    have ep : IntKind.i64.wrap (IntKind.i64.wrap (((j + 1 : Nat) : Int)) + (i : Int)) = ((j + 1 + i : Nat) : Int) := by
      rw [wrap_i64 (n := ((j + 1 : Nat) : Int)) (by omega) (by omega), wrap_i64 (by omega) (by omega)]; omega
    have eo : IntKind.i64.wrap (IntKind.u64.wrap (((j + 1 : Nat) : Int) - 1)) = ((j + 1 - 1 : Nat) : Int) := by
      rw [wrap_u64 (by omega) (by omega), wrap_i64 (by omega) (by omega)]; omega
    rw [ei, ep, eo]
    have good : badC A L (j + 1, hd) i = false → ∃ i' : Nat, ((i + 1 : Nat) : Int) = i' ∧ i' ≤ len ∧ (∀ i'', i'' < i' → badC A L (j + 1, hd) i'' = false) ∧ Ck w v6 b g w.heap.size c1 c2 c3 r c4 M A L 0 0 (k : Nat) ∧ HB v6 W'.heap.size hd ∧ Dfr D v6 ∧ Dfr D2 v6 ∧ Bsy rec2 l2 v6 ∧ Upd (fun i => i = l2) W' v6 := fun hg =>
      ⟨i + 1, rfl, by omega, fun i'' hi'' => by
        rcases Nat.lt_or_ge i'' i with h1 | h1
        · exact hnc i'' h1
        · obtain rfl : i'' = i := by omega
          exact hg, ck6, hb6, hD4.upd x46 not_false, hD42.upd x46 not_false, hB4.upd x46 not_false, ua4.trans x46 fun i hi hn => ⟨hn, not_false⟩⟩
    have ebc : badC A L (j + 1, hd) i = (refT hd i && !thereT L (A.ws.getD (j + 1 + i) 0)) := rfl
    have hpos : j + 1 + i < A.ws.length := by omega
    refine ⟨_, rfl, fun hr => ⟨_, fun v' u' => (ck6.ext u').k4.cell 0, _, fun v' u' => (ck6.ext u').k0.cell 0, _, rfl, ⟨some ⟨b, 0, none⟩, A.ws.length, A.ws.length⟩, fun v' u' => (ck6.ext u').a.hd.cell 1, by omega, by show ((j + 1 + i : Nat) : Int) < ((A.ws.length : Nat) : Int); omega, _, rfl, _, fun v' u' => (ck6.ext u').a.wordAt (by rw [Int.toNat_natCast]; exact hpos), ?_⟩, fun hr => ⟨good (by rw [ebc, hr]; rfl), by dsimp only; omega⟩⟩
    have hlook := ck6.m.look mp_und mp_key (mp_zero v6) ((A.ws.getD (j + 1 + i) 0 : Nat) : Int)
    rw [fT_at] at hlook
    rw [Int.toNat_natCast]
    refine ⟨_, v6, hlook, fun h0 => ?_, fun h0 => ?_⟩
    rotate_left
    · refine ⟨good ?_, by dsimp only; omega⟩
      have ht : thereT L (A.ws.getD (j + 1 + i) 0) = true := by
        rw [← Bool.not_eq_false]; intro hf; rw [hf] at h0; exact h0 rfl
      rw [ebc, hr, ht]; rfl
    have hbad : badC A L (j + 1, hd) i = true := by
      have ht : thereT L (A.ws.getD (j + 1 + i) 0) = false := by
        rw [← Bool.not_eq_true]; intro hf; rw [hf] at h0; exact absurd h0 (by decide)
      rw [ebc, hr, ht]; rfl
    refine ⟨ck6.k1.canSet 0 (by simp), fun v7 s7 => ?_⟩
    have ck7 := ck6.set1 s7
    refine ⟨ck7.k2.canSet 0 (by simp), fun v8 s8 => ?_⟩
    have ck8 := ck7.set2 s8
    have u7 : Upd (fun i => i = c1) v6 v7 := s7.upd
    have u8 : Upd (fun i => i = c2) v7 v8 := s8.upd
    refine ⟨((hB4.upd x46 not_false).upd u7 (by omega)).upd u8 (by omega), fun v9 u9 q9 hL9 => ⟨fun _ => .inr ⟨(j + 1, hd), ?_, ck8.up u9 (by rintro i rfl; omega), ?_, ?_, hL9⟩, fun h => (by cases h)⟩⟩
    · exact hPm.find hst2 hP hst hno (badT_true (by show i < hd.l.toNat; omega) hbad)
    · exact (((hD4.upd x46 not_false).upd u7 (by omega)).upd u8 (by omega)).upd u9 (by omega)
    · exact (((hD42.upd x46 not_false).upd u7 (by omega)).upd u8 (by omega)).upd u9 (by omega)
  rintro e w22 ⟨rfl, hpost⟩
  refine ⟨_, rfl, ?_⟩
  have fin : ∀ {v v' : World} {p e : Int}, Ck w v b g w.heap.size c1 c2 c3 r c4 M A L p e (k : Nat) → Upd (inL [D2, D]) v v' → Ck w v' b g w.heap.size c1 c2 c3 r c4 M A L p e (k : Nat) := fun ck u =>
    ck.up u (by rintro i (rfl | rfl | hi); omega; omega; exact hi.elim)
  have dd : ¬ inL [D] D2 ∧ ¬ inL [] D := ⟨by rintro (rfl | h); omega; exact h, fun h => h⟩
  rcases hpost with ⟨m, j, hPm, hst2, hno, ck22, hD22, hD22b, hR22⟩ | ⟨o, hf, ck22, hD22, hD22b, hL22⟩
  · refine .inl ⟨hR22, fun w23 u23 q23 => ?_⟩
    have ck23 := ck22.up u23 (by rintro i rfl; omega)
    refine ⟨ck23.k1.canSet 0 (by simp), fun w24 s24 => ?_⟩
    have ck24 := ck23.set1 s24
    refine ⟨ck24.k2.canSet 0 (by simp), fun w25 s25 => ?_⟩
    have ck25 := ck24.set2 s25
    have u24 : Upd (fun i => i = c1) w23 w24 := s24.upd
    have u25 : Upd (fun i => i = c2) w24 w25 := s25.upd
    refine ⟨dd, ⟨((hD22b.upd u23 (by omega)).upd u24 (by omega)).upd u25 (by omega), ((hD22.upd u23 (by omega)).upd u24 (by omega)).upd u25 (by omega)⟩, fun w26 u26 q26 => ?_⟩
    have ck26 := fin ck25 u26
    refine ⟨_, ck26.k1.cell 0, _, ck26.k2.cell 0, ?_, ck26.x⟩
    have em := hPm.uniq hst2 hP hst
    rw [if_pos (by dsimp only; omega), List.find?_eq_none.2 fun x hx => by rw [hno x (by rw [em.1]; exact hx)]; decide]
    rfl
  · refine .inr ⟨hL22, fun w23 u23 q23 => ?_⟩
    have ck23 := ck22.up u23 (by rintro i rfl; omega)
    refine ⟨dd, ⟨hD22b.upd u23 (by omega), hD22.upd u23 (by omega)⟩, fun w26 u26 q26 => ?_⟩
    have ck26 := fin ck23 u26
    refine ⟨_, ck26.k1.cell 0, _, ck26.k2.cell 0, ?_, ck26.x⟩
    rw [if_pos (by dsimp only; omega), hf]
end Go.Proofs.Ytggpomialmpgoaa.V
