/-
  The objects of an arena as a list, by the document's All; All of the arena.
-/
import Derived.Test.YtcmmdaginkhomaaAr19
namespace Go.Proofs.Ytcmmdaginkhomaa.V
open Go Go.RowKit
set_option linter.unusedVariables false
set_option linter.unusedSimpArgs false
set_option maxRecDepth 100000

abbrev Ob := Nat × Hd
theorem Path.cons {A : Ar} {a e : Nat} {l : List Ob} {h : Hd} (hs : stT A A.use (a + 1) = some h) (p : Path A (a + h.l.toNat + 2) l e) : Path A a ((a + 1, h) :: l) e := by
  induction p with
  | nil => exact .snoc (l := []) .nil hs
  | snoc _ hs2 ih => exact .snoc ih hs2
theorem Path.len {A : Ar} {a e : Nat} {l : List Ob} (p : Path A a l e) : a + 2 * l.length ≤ e := by
  induction p with
  | nil => exact Nat.le_refl _
  | snoc _ _ ih => rw [List.length_append, List.length_singleton]; omega
theorem Path.at_ {A : Ar} {a e : Nat} {l : List Ob} (p : Path A a l e) : ∀ o ∈ l, a < o.1 ∧ o.1 ≤ e ∧ stT A A.use o.1 = some o.2 := by
  induction p with
  | nil => intro o h; cases h
  | snoc p hs ih =>
    intro o ho
    rcases List.mem_append.1 ho with h | h
    · have := ih o h; exact ⟨this.1, by omega, this.2.2⟩
    · rw [List.mem_singleton.1 h]; have := p.le; exact ⟨by dsimp only; omega, by dsimp only; omega, hs⟩
def walkT (A : Ar) : Nat → Nat → List Ob × Nat
  | 0, a => ([], a)
  | n + 1, a => match stT A A.use (a + 1) with
    | none => ([], a)
    | some h => ((a + 1, h) :: (walkT A n (a + h.l.toNat + 2)).1, (walkT A n (a + h.l.toNat + 2)).2)
/-- all objects, and where they end -/
def allT (A : Ar) : List Ob × Nat := walkT A (A.ws.length + 1) A.use.f
theorem walkT_path {A : Ar} : ∀ (n a : Nat), A.use.e < a + n → Path A a (walkT A n a).1 (walkT A n a).2 ∧ (stT A A.use ((walkT A n a).2 + 1) = none)
  | 0, a, h => ⟨.nil, by unfold stT; rw [if_neg]; show ¬ (A.use.f < a + 1 ∧ a + 1 ≤ A.use.e); omega⟩
  | n + 1, a, h => by
    unfold walkT
    cases hs : stT A A.use (a + 1) with
    | none => exact ⟨.nil, hs⟩
    | some hd =>
      obtain ⟨h1, h2⟩ := walkT_path (A := A) n (a + hd.l.toNat + 2) (by omega)
      exact ⟨.cons hs h1, h2⟩
theorem allT_path {A : Ar} (ok : A.Ok) : Path A A.use.f (allT A).1 (allT A).2 ∧ stT A A.use ((allT A).2 + 1) = none := by
  have := ok.useIn; have := ok.len
  exact walkT_path _ _ (by omega)
theorem allT_eq {A : Ar} (ok : A.Ok) {l : List Ob} {e : Nat} (h : Path A A.use.f l e) (hs : stT A A.use (e + 1) = none) : allT A = (l, e) := by
  obtain ⟨h1, h2⟩ := allT_path ok
  obtain ⟨h3, h4⟩ := h1.uniq h2 h hs
  exact Prod.ext h3 h4
abbrev obL (o : Ob) : List Value := .int .u64 (o.1 : Nat) :: hdL o.2
def objV (l : List Ob) : List Value := l.flatMap obL
theorem objV_append (l m : List Ob) : objV (l ++ m) = objV l ++ objV m := List.flatMap_append
theorem objV_length (l : List Ob) : (objV l).length = l.length * 5 := by
  induction l with
  | nil => rfl
  | cons o l ih => show (obL o ++ objV l).length = _; rw [List.length_append, ih]; show 5 + l.length * 5 = (l.length + 1) * 5; omega
theorem objV_ones (l : List Ob) : ∀ v ∈ objV l, one v := by
  intro v hv
  obtain ⟨o, _, h⟩ := List.mem_flatMap.1 hv
  simp only [obL, hdL, List.mem_cons, List.not_mem_nil, or_false] at h
  rcases h with rfl | rfl | rfl | rfl | rfl <;> exact trivial
theorem objV_at (l : List Ob) : ∀ (j : Nat) (o : Ob), l[j]? = some o → ∀ i : Nat, i < 5 → (objV l)[j * 5 + i]? = (obL o)[i]? := by
  induction l with
  | nil => intro j o h; cases h
  | cons x l ih =>
    intro j o h i hi
    show (obL x ++ objV l)[j * 5 + i]? = _
    have hx : (obL x).length = 5 := rfl
    cases j with
    | zero =>
      injection h with h; subst h
      rw [List.getElem?_append_left (by omega)]
      congr 1; omega
    | succ j =>
      rw [List.getElem?_append_right (by omega), hx, show (j + 1) * 5 + i - 5 = j * 5 + i by omega]
      exact ih j o h i hi
/-- an object in a row of them -/
theorem Rd.obj {w : World} {s : Sl} {l : List Ob} (h : Rd w 5 s (objV l)) {j : Nat} {o : Ob} (ho : l[j]? = some o) :
    ∃ p, s.a = some p ∧ w.cell? ((p.add (j * 5)).add 0) = some (.int .u64 (o.1 : Nat)) ∧ w.cell? (((p.add (j * 5)).add 1).add 0) = some (.int .i64 o.2.k) ∧ w.cell? (((p.add (j * 5)).add 1).add 1) = some (.int .i64 o.2.t) ∧
      w.cell? (((p.add (j * 5)).add 1).add 2) = some (.int .i64 o.2.l) ∧ w.cell? (((p.add (j * 5)).add 1).add 3) = some (.int .u64 (o.2.r : Nat)) := by
  have hj := (List.getElem?_eq_some_iff.1 ho).1
  have hn := h.1
  rw [objV_length] at hn
  obtain ⟨p, hp, hc⟩ := h.2 (by omega)
  have e := objV_at l j o ho
  refine ⟨p, hp, ?_, ?_, ?_, ?_, ?_⟩ <;> rw [add_add] <;> try rw [add_add]
  · exact hc _ _ (e 0 (by decide))
  · exact hc _ _ (e 1 (by decide))
  · exact hc _ _ (e 2 (by decide))
  · exact hc _ _ (e 3 (by decide))
  · exact hc _ _ (e 4 (by decide))
theorem rall_spec {w : World} {b g : Nat} {A : Ar} (h : ArW 76 w b g A) :
    Calls Try.prog 36 #[.pointer (some ⟨g, 0, none⟩)] w fun e w' => ∃ s : Sl, e = .returned (.tuple #[.slice s.a s.n s.c, .int .i64 ((allT A).2 : Nat)]) ∧ s.n = (allT A).1.length ∧ Own w' w.heap.size 84 5 s (objV (allT A).1) ∧ Ext w w' := by
  refine vc_36 _ _ _ ?_
  have hi := h.ok.useIn
  have hn := h.ok.n
  simp only [eq_self, false_or, or_false, true_and, and_true, decide_eq_true_eq, decide_eq_false_iff_not, gd_st, gd_sf, exists_eq_left', exists_eq_left, Option.some.injEq, Sl.eta, Nat.reduceLeDiff, Int.reduceLE, Int.reduceLT, Int.reduceEq, Int.reduceNe, Nat.reduceMul, Nat.reduceAdd, Nat.reduceSub, Int.toNat_natCast, beq_iff_eq, bne_iff_ne, beq_eq_false_iff_ne, bne_eq_false_iff_eq, pick_and, pick_or, Bool.and_eq_true, Bool.or_eq_true, Bool.and_eq_false_iff, Bool.or_eq_false_iff, ne_eq, not_false_eq_true, Bool.not_eq_true', Bool.not_eq_false', reduceCtorEq, Nat.le_refl, Nat.zero_mul, Nat.mul_one, Nat.zero_add, Int.reduceToNat, ones, one, add_mk, Decidable.not_not, cond_true, cond_false, true_implies, false_implies, implies_true, Bool.not_true, Bool.not_false]
  refine ⟨_, h.hd.cell 2, fun s n w' => ∃ (l : List Ob) (k : Nat), n = k ∧ Path A A.use.f l k ∧ s.n = l.length ∧ Own w' w.heap.size 84 5 s (objV l) ∧ Ext w w', fun _ n _ => (131072 - n).toNat, ⟨[], _, rfl, .nil, rfl, Own.nil _ _ _ _, Ext.refl w⟩, ?_⟩
  rintro _ s n w1 ⟨l, k, rfl, hp, hsn, o1, x1⟩
  have hk := hp.end_le h.ok.use1.1
  have hle := hp.len
  have a1 := h.ext x1
  have er : IntKind.u64.wrap (IntKind.u64.wrap (k : Int) + 1) = ((k + 1 : Nat) : Int) := by
    rw [wrap_u64 (n := (k : Int)) (by omega) (by omega), wrap_u64 (by omega) (by omega)]; omega
  rw [er]
  refine ⟨_, _, rfl, ⟨a1.hd.cell 2, a1.hd.cell 3⟩, ⟨(rin_spec a1 (s := A.use) hi.2.1 hi.2.2 (r := k + 1) (by omega)).mono ?_⟩⟩
  rintro e w2 ⟨rfl, x2⟩
  refine ⟨_, _, _, _, _, rfl, fun w3 n3 => ⟨rfl, HB.can n3, fun w4 s4 => ?_⟩⟩
  obtain ⟨b4, y4⟩ := HB.made n3 s4
  have x14 := x2.trans y4
  have x04 := x1.trans x14
  have o4 := o1.ext x14
  cases hst : stT A A.use (k + 1) with
  | none =>
    refine ⟨fun _ => ?_, fun h => (by cases h)⟩
    have ea := allT_eq h.ok hp hst
    exact ⟨s, by rw [ea], by rw [ea]; exact hsn, by rw [ea]; exact o4, x04⟩
  | some hd =>
    rw [hst] at b4
    have b4' : HB w4 w2.heap.size hd := b4
    have hin := stT_in hst
    have hl0 := hin.2.1.2.2.1
    have hl1 := hin.2.1.le
    refine ⟨fun h => (by cases h), fun _ => ⟨_, _, _, _, rfl, ⟨b4'.cell 0, b4'.cell 1, b4'.cell 2, b4'.cell 3⟩, ⟨rfl, by simp [len', wr]⟩, by simp [len', wr, splice, rep], fun w5 n5 => ?_⟩⟩
    have rd5 : Rd w5 5 ⟨some ⟨w4.heap.size, 0, none⟩, 1, 1⟩ (objV [(k + 1, hd)]) := (Blk.new n5).rd (z := 5) (o := 0) (n := 1) (c := 1) (by simp)
    obtain ⟨r, w6, hr, hrn, o6, u6, _⟩ := (o4.ext n5.ext).append (t := 80) (ty := 80) tab_ok (by rfl) (by rfl) (by decide) rd5 (objV_ones _) (by dsimp only; omega) (by dsimp only; omega) (by have := x04.size; have := n5.ext.size; omega)
    have hoB := o4.base
    have z04 := x04.size
    have x06 : Ext w w6 := (x04.trans n5.ext).fresh u6 (by rintro i ⟨p, hp, rfl⟩; exact (hoB p hp).1)
    have b6 := (b4'.ext n5.ext).upd u6 (by
      rintro ⟨p, hp, he⟩
      have h1 := own_blk_ne o4 b4' (by decide) p hp
      exact h1 he.symm)
    have ek : IntKind.i64.wrap (IntKind.i64.wrap ((k : Int) + hd.l) + 2) = ((k + hd.l.toNat + 2 : Nat) : Int) := by
      rw [wrap_i64 (n := (k : Int) + hd.l) (by omega) (by omega), wrap_i64 (by omega) (by omega)]; omega
    refine ⟨r, w6, hr, _, b6.cell 2, ?_⟩
    rw [ek]
    refine ⟨⟨l ++ [(k + 1, hd)], _, rfl, hp.snoc hst, by rw [hrn, hsn]; simp, by rw [objV_append]; exact o6, x06⟩, by dsimp only; omega⟩
theorem all_spec (g : Nat) (w : World) :
    Calls Try.prog 21 #[.pointer (some ⟨g, 0, none⟩)] w fun e w' => e = .returned (.func (.func 42) #[] #[.pointer (some ⟨w.heap.size, 0, none⟩)]) ∧ Blk w' w.heap.size 32 [.pointer (some ⟨g, 0, none⟩)] ∧ Ext w w' := by
  refine vc_21 _ _ _ ?_
  simp only [eq_self, false_or, or_false, true_and, and_true, decide_eq_true_eq, decide_eq_false_iff_not, gd_st, gd_sf, exists_eq_left', exists_eq_left, Option.some.injEq, Sl.eta, Nat.reduceLeDiff, Int.reduceLE, Int.reduceLT, Int.reduceEq, Int.reduceNe, Nat.reduceMul, Nat.reduceAdd, Nat.reduceSub, Int.toNat_natCast, beq_iff_eq, bne_iff_ne, beq_eq_false_iff_ne, bne_eq_false_iff_eq, pick_and, pick_or, Bool.and_eq_true, Bool.or_eq_true, Bool.and_eq_false_iff, Bool.or_eq_false_iff, ne_eq, not_false_eq_true, Bool.not_eq_true', Bool.not_eq_false', reduceCtorEq, Nat.le_refl, Nat.zero_mul, Nat.mul_one, Nat.zero_add, Int.reduceToNat, ones, one, add_mk, Decidable.not_not, cond_true, cond_false, true_implies, false_implies, implies_true, Bool.not_true, Bool.not_false]
  intro w1 n1
  exact ⟨Blk.new n1, n1.ext⟩
end Go.Proofs.Ytcmmdaginkhomaa.V
