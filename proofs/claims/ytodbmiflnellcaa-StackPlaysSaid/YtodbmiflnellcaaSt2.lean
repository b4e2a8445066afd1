/-
  Package stack: what a frame's cells turn into, what turns the stack.
-/
import Derived.Test.YtodbmiflnellcaaSt1
namespace Go.Proofs.Ytodbmiflnellcaa.V
open Go Go.RowKit
set_option linter.unusedVariables false
set_option linter.unusedSimpArgs false

/-! ### a frame's cells -/
section
variable {cs : List Nat} {o : Nat} {f : Fr}
theorem FrAt.setLocal (h : FrAt cs o f) {i x : Nat} (hi : i < f.ls.length) (hl : o + f.size ≤ cs.length) : FrAt (cs.set (o + 3 + i) x) o { f with ls := f.ls.set i x } := by
  have hz : f.size = 3 + f.ls.length + f.hi := rfl
  refine ⟨⟨h.ok.fn, h.ok.at_, by simpa using h.ok.ls, h.ok.hi, h.ok.ops⟩, ?_, ?_, ?_, fun j v hv => ?_, fun j v hv => ?_⟩
  · rw [List.getElem?_set_ne (by omega)]; exact h.pl
  · rw [List.getElem?_set_ne (by omega)]; simpa using h.sh
  · rw [List.getElem?_set_ne (by omega)]; exact h.ht
  · by_cases hj : i = j
    · subst hj
      rw [List.getElem?_set_self (by omega)] at hv ⊢
      exact hv
    · rw [List.getElem?_set_ne (by omega)]
      simp only [List.getElem?_set_ne hj] at hv
      exact h.ls j v hv
  · rw [List.length_set, List.getElem?_set_ne (by omega)]; exact h.ops j v hv
theorem FrAt.setOp (h : FrAt cs o f) {i x : Nat} (hi : i < f.ops.length) (hl : o + f.size ≤ cs.length) : FrAt (cs.set (o + 3 + f.ls.length + i) x) o { f with ops := f.ops.set i x } := by
  have hz : f.size = 3 + f.ls.length + f.hi := rfl
  have ho := h.ok.ops
  refine ⟨⟨h.ok.fn, h.ok.at_, h.ok.ls, h.ok.hi, by simpa using h.ok.ops⟩, ?_, ?_, ?_, fun j v hv => ?_, fun j v hv => ?_⟩
  · rw [List.getElem?_set_ne (by omega)]; exact h.pl
  · rw [List.getElem?_set_ne (by omega)]; exact h.sh
  · rw [List.getElem?_set_ne (by omega), List.length_set]; exact h.ht
  · have hj : j < f.ls.length := (List.getElem?_eq_some_iff.1 hv).1
    rw [List.getElem?_set_ne (by omega)]; exact h.ls j v hv
  · dsimp only at hv ⊢
    by_cases hj : i = j
    · subst hj
      simp only [List.getElem?_set_self hi] at hv
      rw [List.getElem?_set_self (by omega)]
      exact hv
    · simp only [List.getElem?_set_ne hj] at hv
      rw [List.getElem?_set_ne (by omega)]
      exact h.ops j v hv
theorem FrAt.setPl (h : FrAt cs o f) {a x : Nat} (hx : x = f.fn * 4294967296 + a) (ha : a < 2147483648) (hl : o + f.size ≤ cs.length) : FrAt (cs.set o x) o { f with at_ := a } := by
  have hz : f.size = 3 + f.ls.length + f.hi := rfl
  subst hx
  refine ⟨⟨h.ok.fn, ha, h.ok.ls, h.ok.hi, h.ok.ops⟩, ?_, ?_, ?_, fun j v hv => ?_, fun j v hv => ?_⟩
  · rw [List.getElem?_set_self (by omega)]
  · rw [List.getElem?_set_ne (by omega)]; exact h.sh
  · rw [List.getElem?_set_ne (by omega)]; exact h.ht
  · rw [List.getElem?_set_ne (by omega)]; exact h.ls j v hv
  · rw [List.getElem?_set_ne (by omega)]; exact h.ops j v hv
/-- one operand more, its word laid -/
theorem FrAt.more (h : FrAt cs o f) {x : Nat} (hx : cs[o + 3 + f.ls.length + f.ops.length]? = some x) (hi : f.ops.length < f.hi) (hl : o + f.size ≤ cs.length) :
    FrAt (cs.set (o + 2) (f.ops.length + 1)) o { f with ops := f.ops ++ [x] } := by
  have hz : f.size = 3 + f.ls.length + f.hi := rfl
  refine ⟨⟨h.ok.fn, h.ok.at_, h.ok.ls, h.ok.hi, by simp; omega⟩, ?_, ?_, ?_, fun j v hv => ?_, fun j v hv => ?_⟩
  · rw [List.getElem?_set_ne (by omega)]; exact h.pl
  · rw [List.getElem?_set_ne (by omega)]; exact h.sh
  · rw [List.getElem?_set_self (by omega)]; simp
  · rw [List.getElem?_set_ne (by omega)]; exact h.ls j v hv
  · rw [List.getElem?_set_ne (by omega)]
    simp only [List.getElem?_append] at hv
    split at hv
    · exact h.ops j v hv
    · have hj : j = f.ops.length := by
        have := (List.getElem?_eq_some_iff.1 hv).1
        simp at this
        omega
      subst hj
      simp at hv
      rw [← hv]; exact hx
theorem FrAt.less (h : FrAt cs o f) (hi : 0 < f.ops.length) (hl : o + f.size ≤ cs.length) :
    FrAt (cs.set (o + 2) (f.ops.length - 1)) o { f with ops := f.ops.dropLast } := by
  have hz : f.size = 3 + f.ls.length + f.hi := rfl
  have ho := h.ok.ops
  refine ⟨⟨h.ok.fn, h.ok.at_, h.ok.ls, h.ok.hi, by simp; omega⟩, ?_, ?_, ?_, fun j v hv => ?_, fun j v hv => ?_⟩
  · rw [List.getElem?_set_ne (by omega)]; exact h.pl
  · rw [List.getElem?_set_ne (by omega)]; exact h.sh
  · rw [List.getElem?_set_self (by omega)]; simp
  · rw [List.getElem?_set_ne (by omega)]; exact h.ls j v hv
  · rw [List.getElem?_set_ne (by omega)]
    refine h.ops j v ?_
    simp only [List.getElem?_dropLast] at hv
    split at hv
    · exact hv
    · cases hv
end

section
variable {w w' w1 : World} {g gr words : Nat} {fs : Sl} {cs : List Nat} {L A C : List Fr} {f f' : Fr} {S F : Nat → Prop}
theorem used_mid (hz : f'.size = f.size) : used (A ++ f' :: C) = used (A ++ f :: C) := by simp [used_append, used, hz]
theorem starts_mid (hz : f'.size = f.size) : starts 0 (A ++ f' :: C) = starts 0 (A ++ f :: C) := by simp [starts_append, starts, hz]
/-- one cell of one frame is set -/
theorem StkAt.set1 (h : StkAt w g gr words fs cs (A ++ f :: C)) {i x : Nat} (h1 : SetW w ⟨gr, i, none⟩ [.int .u64 (x : Nat)] w1) (hi1 : used A ≤ i) (hi2 : i < used A + f.size)
    (hz : f'.size = f.size) (hf : FrAt (cs.set i x) (used A) f') : StkAt w1 g gr words fs (cs.set i x) (A ++ f' :: C) := by
  have hu := h1.upd
  refine ⟨?_, ?_, by rw [List.length_set]; exact h.len, ?_, ?_, by rw [used_mid hz]; exact h.fit, h.big, h.ne, h.off⟩
  · rw [used_mid hz]; exact h.hd.upd hu (Ne.symm h.ne)
  · rw [← uv_set]; exact h1.blk1 h.row
  · rw [starts_mid hz]
    exact h.fst.upd hu fun p hp => (h.off p hp).2
  · rw [lay_append]
    have hl := (lay_append cs A (f :: C) 0).1 h.lay
    simp only [Nat.zero_add, LayR] at hl ⊢
    refine ⟨lay_congr A _ hl.1 fun j h1 h2 => by rw [List.getElem?_set_ne (by omega)], hf, ?_⟩
    rw [hz]
    exact lay_congr C _ hl.2.2 fun j h1 h2 => by rw [List.getElem?_set_ne (by omega)]
theorem StkAt.can (h : StkAt w g gr words fs cs L) {i : Nat} (hi : i < words) : CanSet w ⟨gr, i, none⟩ 1 := h.row.canSet i (by rw [uv_length, h.len]; exact hi)
theorem StkAt.roomS (h : StkAt w g gr words fs cs (A ++ f :: C)) : used A + f.size ≤ cs.length := by rw [h.len]; exact h.room
end

/-! ### what the calls come to -/
def onTop {α : Type} (L : List Fr) (d : α) (k : Fr → α × Fr) : α × List Fr :=
  match L.getLast? with
  | none => (d, L)
  | some f => ((k f).1, L.dropLast ++ [(k f).2])
theorem onTop_nil {α : Type} (d : α) (k : Fr → α × Fr) : onTop [] d k = (d, []) := rfl
theorem onTop_snoc {α : Type} (A : List Fr) (f : Fr) (d : α) (k : Fr → α × Fr) : onTop (A ++ [f]) d k = ((k f).1, A ++ [(k f).2]) := by
  simp [onTop]
def gotoF (a : Int) (f : Fr) : Int × Fr := if a < 0 ∨ 2147483647 < a then (1, f) else (0, { f with at_ := a.toNat })
def getF (i : Int) (f : Fr) : (Nat × Int) × Fr := if 0 ≤ i ∧ i < f.ls.length then ((f.ls.getD i.toNat 0, 0), f) else ((0, 20), f)
def setF (i : Int) (x : Nat) (f : Fr) : Int × Fr := if 0 ≤ i ∧ i < f.ls.length then (0, { f with ls := f.ls.set i.toNat x }) else (20, f)
def pushF (x : Nat) (f : Fr) : Int × Fr := if f.ops.length = f.hi then (14, f) else (0, { f with ops := f.ops ++ [x] })
def popF (f : Fr) : (Nat × Int) × Fr := if f.ops.length = 0 then ((0, 13), f) else ((f.ops.getD (f.ops.length - 1) 0, 0), { f with ops := f.ops.dropLast })
def peekF (i : Int) (f : Fr) : (Nat × Int) × Fr := if 0 ≤ i ∧ i < f.ops.length then ((f.ops.getD (f.ops.length - 1 - i.toNat) 0, 0), f) else ((0, 20), f)
def leaveL (L : List Fr) : Int × List Fr := if L.length = 0 then (20, L) else (0, L.dropLast)
def enterL (words : Nat) (L : List Fr) (fn lo hi : Int) : Int × List Fr :=
  if fn < 0 ∨ 2147483647 < fn ∨ lo < 0 ∨ 32 < lo ∨ hi < 0 ∨ 24 < hi then (1, L)
  else if (words : Int) < used L + 3 + lo + hi then (19, L)
  else (0, L ++ [⟨fn.toNat, 0, hi.toNat, List.replicate lo.toNat 0, []⟩])

section
variable {w w' w1 : World} {g words : Nat} {L : List Fr} {F : Nat → Prop}
theorem Stk.intro {gr : Nat} {fs : Sl} {cs : List Nat} (h : StkAt w g gr words fs cs L) (f1 : F g) (f2 : F gr) (f3 : ∀ p, fs.a = some p → F p.block) (f4 : ∀ k, F k → k = g ∨ k = gr ∨ ∃ p, fs.a = some p ∧ k = p.block) : Stk w g F words L := ⟨gr, fs, cs, h, f1, f2, f3, f4⟩

theorem func_spec (h : Stk w g F words L) : Calls Try.prog 29 #[.pointer (some ⟨g, 0, none⟩)] w fun e w' =>
    e = .returned (.int .i64 ((onTop L 0 fun f => (f.fn, f)).1 : Nat)) ∧ Qt w w' := by
  obtain ⟨gr, fs, cs, h, f1, f2, f3, f4⟩ := h
  refine vc_29 _ _ _ ?_
  simp only [eq_self, true_and, and_true, decide_eq_true_eq, decide_eq_false_iff_not, gd_st, gd_sf, exists_eq_left', exists_eq_left, Option.some.injEq, Sl.eta, Nat.reduceLeDiff, Int.reduceLE, Int.reduceLT, Int.reduceEq, Int.reduceNe, Nat.reduceMul, Nat.reduceAdd, Nat.reduceSub, Int.toNat_natCast, beq_iff_eq, bne_iff_ne, beq_eq_false_iff_ne, bne_eq_false_iff_eq, pick_and, pick_or, Bool.and_eq_true, Bool.or_eq_true, Bool.and_eq_false_iff, Bool.or_eq_false_iff, ne_eq, not_false_eq_true, Bool.not_eq_true', Bool.not_eq_false', reduceCtorEq, Nat.le_refl, Nat.zero_mul, Nat.mul_one, Nat.zero_add, Int.reduceToNat, ones, one, add_mk, Decidable.not_not, cond_true, cond_false, true_implies, false_implies, implies_true, Bool.not_true, Bool.not_false]
  rcases top_at L with rfl | ⟨A, f, rfl⟩
  · refine ⟨(top_out h).mono ?_⟩
    rintro e w1 ⟨rfl, hq⟩
    refine ⟨⟨none, 0, 0⟩, rfl, ?_⟩
    simp only [Option.isNone_none]
    simp only [eq_self, true_and, and_true, decide_eq_true_eq, decide_eq_false_iff_not, gd_st, gd_sf, exists_eq_left', exists_eq_left, Option.some.injEq, Sl.eta, Nat.reduceLeDiff, Int.reduceLE, Int.reduceLT, Int.reduceEq, Int.reduceNe, Nat.reduceMul, Nat.reduceAdd, Nat.reduceSub, Int.toNat_natCast, beq_iff_eq, bne_iff_ne, beq_eq_false_iff_ne, bne_eq_false_iff_eq, pick_and, pick_or, Bool.and_eq_true, Bool.or_eq_true, Bool.and_eq_false_iff, Bool.or_eq_false_iff, ne_eq, not_false_eq_true, Bool.not_eq_true', Bool.not_eq_false', reduceCtorEq, Nat.le_refl, Nat.zero_mul, Nat.mul_one, Nat.zero_add, Int.reduceToNat, ones, one, add_mk, Decidable.not_not, cond_true, cond_false, true_implies, false_implies, implies_true, Bool.not_true, Bool.not_false]
    exact ⟨rfl, hq⟩
  · refine ⟨(top_in h).mono ?_⟩
    rintro e w1 ⟨rfl, hq⟩
    have h1 := h.ext hq.ext
    have hr := h.room
    have hz := f.size_ge
    have hf := h1.at_
    have ho := hf.ok.fn
    have ha := hf.ok.at_
    refine ⟨⟨some ⟨gr, used A, none⟩, words - used A, words - used A⟩, rfl, ?_⟩
    simp only [Option.isNone_some]
    simp only [eq_self, true_and, and_true, decide_eq_true_eq, decide_eq_false_iff_not, gd_st, gd_sf, exists_eq_left', exists_eq_left, Option.some.injEq, Sl.eta, Nat.reduceLeDiff, Int.reduceLE, Int.reduceLT, Int.reduceEq, Int.reduceNe, Nat.reduceMul, Nat.reduceAdd, Nat.reduceSub, Int.toNat_natCast, beq_iff_eq, bne_iff_ne, beq_eq_false_iff_ne, bne_eq_false_iff_eq, pick_and, pick_or, Bool.and_eq_true, Bool.or_eq_true, Bool.and_eq_false_iff, Bool.or_eq_false_iff, ne_eq, not_false_eq_true, Bool.not_eq_true', Bool.not_eq_false', reduceCtorEq, Nat.le_refl, Nat.zero_mul, Nat.mul_one, Nat.zero_add, Int.reduceToNat, ones, one, add_mk, Decidable.not_not, cond_true, cond_false, true_implies, false_implies, implies_true, Bool.not_true, Bool.not_false]
    refine ⟨by omega, _, h1.cellAt hf.pl, ?_, hq⟩
    rw [onTop_snoc, shr32, wrap_i64 (by omega) (by omega)]
    congr 3
    omega
theorem at_spec (h : Stk w g F words L) : Calls Try.prog 40 #[.pointer (some ⟨g, 0, none⟩)] w fun e w' =>
    e = .returned (.int .i64 ((onTop L 0 fun f => (f.at_, f)).1 : Nat)) ∧ Qt w w' := by
  obtain ⟨gr, fs, cs, h, f1, f2, f3, f4⟩ := h
  refine vc_40 _ _ _ ?_
  simp only [eq_self, true_and, and_true, decide_eq_true_eq, decide_eq_false_iff_not, gd_st, gd_sf, exists_eq_left', exists_eq_left, Option.some.injEq, Sl.eta, Nat.reduceLeDiff, Int.reduceLE, Int.reduceLT, Int.reduceEq, Int.reduceNe, Nat.reduceMul, Nat.reduceAdd, Nat.reduceSub, Int.toNat_natCast, beq_iff_eq, bne_iff_ne, beq_eq_false_iff_ne, bne_eq_false_iff_eq, pick_and, pick_or, Bool.and_eq_true, Bool.or_eq_true, Bool.and_eq_false_iff, Bool.or_eq_false_iff, ne_eq, not_false_eq_true, Bool.not_eq_true', Bool.not_eq_false', reduceCtorEq, Nat.le_refl, Nat.zero_mul, Nat.mul_one, Nat.zero_add, Int.reduceToNat, ones, one, add_mk, Decidable.not_not, cond_true, cond_false, true_implies, false_implies, implies_true, Bool.not_true, Bool.not_false]
  rcases top_at L with rfl | ⟨A, f, rfl⟩
  · refine ⟨(top_out h).mono ?_⟩
    rintro e w1 ⟨rfl, hq⟩
    refine ⟨⟨none, 0, 0⟩, rfl, ?_⟩
    simp only [Option.isNone_none]
    simp only [eq_self, true_and, and_true, decide_eq_true_eq, decide_eq_false_iff_not, gd_st, gd_sf, exists_eq_left', exists_eq_left, Option.some.injEq, Sl.eta, Nat.reduceLeDiff, Int.reduceLE, Int.reduceLT, Int.reduceEq, Int.reduceNe, Nat.reduceMul, Nat.reduceAdd, Nat.reduceSub, Int.toNat_natCast, beq_iff_eq, bne_iff_ne, beq_eq_false_iff_ne, bne_eq_false_iff_eq, pick_and, pick_or, Bool.and_eq_true, Bool.or_eq_true, Bool.and_eq_false_iff, Bool.or_eq_false_iff, ne_eq, not_false_eq_true, Bool.not_eq_true', Bool.not_eq_false', reduceCtorEq, Nat.le_refl, Nat.zero_mul, Nat.mul_one, Nat.zero_add, Int.reduceToNat, ones, one, add_mk, Decidable.not_not, cond_true, cond_false, true_implies, false_implies, implies_true, Bool.not_true, Bool.not_false]
    exact ⟨rfl, hq⟩
  · refine ⟨(top_in h).mono ?_⟩
    rintro e w1 ⟨rfl, hq⟩
    have h1 := h.ext hq.ext
    have hr := h.room
    have hz := f.size_ge
    have hf := h1.at_
    have ho := hf.ok.fn
    have ha := hf.ok.at_
    refine ⟨⟨some ⟨gr, used A, none⟩, words - used A, words - used A⟩, rfl, ?_⟩
    simp only [Option.isNone_some]
    simp only [eq_self, true_and, and_true, decide_eq_true_eq, decide_eq_false_iff_not, gd_st, gd_sf, exists_eq_left', exists_eq_left, Option.some.injEq, Sl.eta, Nat.reduceLeDiff, Int.reduceLE, Int.reduceLT, Int.reduceEq, Int.reduceNe, Nat.reduceMul, Nat.reduceAdd, Nat.reduceSub, Int.toNat_natCast, beq_iff_eq, bne_iff_ne, beq_eq_false_iff_ne, bne_eq_false_iff_eq, pick_and, pick_or, Bool.and_eq_true, Bool.or_eq_true, Bool.and_eq_false_iff, Bool.or_eq_false_iff, ne_eq, not_false_eq_true, Bool.not_eq_true', Bool.not_eq_false', reduceCtorEq, Nat.le_refl, Nat.zero_mul, Nat.mul_one, Nat.zero_add, Int.reduceToNat, ones, one, add_mk, Decidable.not_not, cond_true, cond_false, true_implies, false_implies, implies_true, Bool.not_true, Bool.not_false]
    refine ⟨by omega, _, h1.cellAt hf.pl, ?_, hq⟩
    rw [onTop_snoc, wrap_u32', wrap_i64 (by omega) (by omega)]
    congr 3
    omega
theorem height_spec (h : Stk w g F words L) : Calls Try.prog 21 #[.pointer (some ⟨g, 0, none⟩)] w fun e w' =>
    e = .returned (.int .i64 ((onTop L 0 fun f => (f.ops.length, f)).1 : Nat)) ∧ Qt w w' := by
  obtain ⟨gr, fs, cs, h, f1, f2, f3, f4⟩ := h
  refine vc_21 _ _ _ ?_
  simp only [eq_self, true_and, and_true, decide_eq_true_eq, decide_eq_false_iff_not, gd_st, gd_sf, exists_eq_left', exists_eq_left, Option.some.injEq, Sl.eta, Nat.reduceLeDiff, Int.reduceLE, Int.reduceLT, Int.reduceEq, Int.reduceNe, Nat.reduceMul, Nat.reduceAdd, Nat.reduceSub, Int.toNat_natCast, beq_iff_eq, bne_iff_ne, beq_eq_false_iff_ne, bne_eq_false_iff_eq, pick_and, pick_or, Bool.and_eq_true, Bool.or_eq_true, Bool.and_eq_false_iff, Bool.or_eq_false_iff, ne_eq, not_false_eq_true, Bool.not_eq_true', Bool.not_eq_false', reduceCtorEq, Nat.le_refl, Nat.zero_mul, Nat.mul_one, Nat.zero_add, Int.reduceToNat, ones, one, add_mk, Decidable.not_not, cond_true, cond_false, true_implies, false_implies, implies_true, Bool.not_true, Bool.not_false]
  rcases top_at L with rfl | ⟨A, f, rfl⟩
  · refine ⟨(top_out h).mono ?_⟩
    rintro e w1 ⟨rfl, hq⟩
    refine ⟨⟨none, 0, 0⟩, rfl, ?_⟩
    simp only [Option.isNone_none]
    simp only [eq_self, true_and, and_true, decide_eq_true_eq, decide_eq_false_iff_not, gd_st, gd_sf, exists_eq_left', exists_eq_left, Option.some.injEq, Sl.eta, Nat.reduceLeDiff, Int.reduceLE, Int.reduceLT, Int.reduceEq, Int.reduceNe, Nat.reduceMul, Nat.reduceAdd, Nat.reduceSub, Int.toNat_natCast, beq_iff_eq, bne_iff_ne, beq_eq_false_iff_ne, bne_eq_false_iff_eq, pick_and, pick_or, Bool.and_eq_true, Bool.or_eq_true, Bool.and_eq_false_iff, Bool.or_eq_false_iff, ne_eq, not_false_eq_true, Bool.not_eq_true', Bool.not_eq_false', reduceCtorEq, Nat.le_refl, Nat.zero_mul, Nat.mul_one, Nat.zero_add, Int.reduceToNat, ones, one, add_mk, Decidable.not_not, cond_true, cond_false, true_implies, false_implies, implies_true, Bool.not_true, Bool.not_false]
    exact ⟨rfl, hq⟩
  · refine ⟨(top_in h).mono ?_⟩
    rintro e w1 ⟨rfl, hq⟩
    have h1 := h.ext hq.ext
    have hr := h.room
    have hz := f.size_ge
    have hf := h1.at_
    have ho := hf.ok.ops
    have ha := hf.ok.hi
    refine ⟨⟨some ⟨gr, used A, none⟩, words - used A, words - used A⟩, rfl, ?_⟩
    simp only [Option.isNone_some]
    simp only [eq_self, true_and, and_true, decide_eq_true_eq, decide_eq_false_iff_not, gd_st, gd_sf, exists_eq_left', exists_eq_left, Option.some.injEq, Sl.eta, Nat.reduceLeDiff, Int.reduceLE, Int.reduceLT, Int.reduceEq, Int.reduceNe, Nat.reduceMul, Nat.reduceAdd, Nat.reduceSub, Int.toNat_natCast, beq_iff_eq, bne_iff_ne, beq_eq_false_iff_ne, bne_eq_false_iff_eq, pick_and, pick_or, Bool.and_eq_true, Bool.or_eq_true, Bool.and_eq_false_iff, Bool.or_eq_false_iff, ne_eq, not_false_eq_true, Bool.not_eq_true', Bool.not_eq_false', reduceCtorEq, Nat.le_refl, Nat.zero_mul, Nat.mul_one, Nat.zero_add, Int.reduceToNat, ones, one, add_mk, Decidable.not_not, cond_true, cond_false, true_implies, false_implies, implies_true, Bool.not_true, Bool.not_false]
    refine ⟨by omega, _, h1.cellAt hf.ht, ?_, hq⟩
    rw [onTop_snoc, wrap_i64 (by omega) (by omega)]
theorem used_spec (h : Stk w g F words L) : Calls Try.prog 10 #[.pointer (some ⟨g, 0, none⟩)] w fun e w' =>
    e = .returned (.int .i64 (used L : Nat)) ∧ Qt w w' := by
  obtain ⟨gr, fs, cs, h, f1, f2, f3, f4⟩ := h
  refine vc_10 _ _ _ ?_
  have hb := h.hd
  simp only [eq_self, true_and, and_true, decide_eq_true_eq, decide_eq_false_iff_not, gd_st, gd_sf, exists_eq_left', exists_eq_left, Option.some.injEq, Sl.eta, Nat.reduceLeDiff, Int.reduceLE, Int.reduceLT, Int.reduceEq, Int.reduceNe, Nat.reduceMul, Nat.reduceAdd, Nat.reduceSub, Int.toNat_natCast, beq_iff_eq, bne_iff_ne, beq_eq_false_iff_ne, bne_eq_false_iff_eq, pick_and, pick_or, Bool.and_eq_true, Bool.or_eq_true, Bool.and_eq_false_iff, Bool.or_eq_false_iff, ne_eq, not_false_eq_true, Bool.not_eq_true', Bool.not_eq_false', reduceCtorEq, Nat.le_refl, Nat.zero_mul, Nat.mul_one, Nat.zero_add, Int.reduceToNat, ones, one, add_mk, Decidable.not_not, cond_true, cond_false, true_implies, false_implies, implies_true, Bool.not_true, Bool.not_false]
  simp only [hb.cell, List.getElem?_cons_zero, List.getElem?_cons_succ, ex_sl, Value.int.injEq, Value.bool.injEq, Value.pointer.injEq, Value.string.injEq, eq_self, true_and, and_true, decide_eq_true_eq, decide_eq_false_iff_not, gd_st, gd_sf, exists_eq_left', exists_eq_left, Option.some.injEq, Sl.eta, Nat.reduceLeDiff, Int.reduceLE, Int.reduceLT, Int.reduceEq, Int.reduceNe, Nat.reduceMul, Nat.reduceAdd, Nat.reduceSub, Int.toNat_natCast, beq_iff_eq, bne_iff_ne, beq_eq_false_iff_ne, bne_eq_false_iff_eq, pick_and, pick_or, Bool.and_eq_true, Bool.or_eq_true, Bool.and_eq_false_iff, Bool.or_eq_false_iff, ne_eq, not_false_eq_true, Bool.not_eq_true', Bool.not_eq_false', reduceCtorEq, Nat.le_refl, Nat.zero_mul, Nat.mul_one, Nat.zero_add, Int.reduceToNat, ones, one, add_mk, Decidable.not_not, cond_true, cond_false, true_implies, false_implies, implies_true, Bool.not_true, Bool.not_false]
  exact Qt.refl w
theorem depth_spec (h : Stk w g F words L) : Calls Try.prog 17 #[.pointer (some ⟨g, 0, none⟩)] w fun e w' =>
    e = .returned (.int .i64 (L.length : Nat)) ∧ Qt w w' := by
  obtain ⟨gr, fs, cs, h, f1, f2, f3, f4⟩ := h
  refine vc_17 _ _ _ ?_
  have hb := h.hd
  have hn := h.lenS
  simp only [eq_self, true_and, and_true, decide_eq_true_eq, decide_eq_false_iff_not, gd_st, gd_sf, exists_eq_left', exists_eq_left, Option.some.injEq, Sl.eta, Nat.reduceLeDiff, Int.reduceLE, Int.reduceLT, Int.reduceEq, Int.reduceNe, Nat.reduceMul, Nat.reduceAdd, Nat.reduceSub, Int.toNat_natCast, beq_iff_eq, bne_iff_ne, beq_eq_false_iff_ne, bne_eq_false_iff_eq, pick_and, pick_or, Bool.and_eq_true, Bool.or_eq_true, Bool.and_eq_false_iff, Bool.or_eq_false_iff, ne_eq, not_false_eq_true, Bool.not_eq_true', Bool.not_eq_false', reduceCtorEq, Nat.le_refl, Nat.zero_mul, Nat.mul_one, Nat.zero_add, Int.reduceToNat, ones, one, add_mk, Decidable.not_not, cond_true, cond_false, true_implies, false_implies, implies_true, Bool.not_true, Bool.not_false]
  simp only [hb.cell, List.getElem?_cons_zero, List.getElem?_cons_succ, ex_sl, Value.int.injEq, Value.bool.injEq, Value.pointer.injEq, Value.string.injEq, eq_self, true_and, and_true, decide_eq_true_eq, decide_eq_false_iff_not, gd_st, gd_sf, exists_eq_left', exists_eq_left, Option.some.injEq, Sl.eta, Nat.reduceLeDiff, Int.reduceLE, Int.reduceLT, Int.reduceEq, Int.reduceNe, Nat.reduceMul, Nat.reduceAdd, Nat.reduceSub, Int.toNat_natCast, beq_iff_eq, bne_iff_ne, beq_eq_false_iff_ne, bne_eq_false_iff_eq, pick_and, pick_or, Bool.and_eq_true, Bool.or_eq_true, Bool.and_eq_false_iff, Bool.or_eq_false_iff, ne_eq, not_false_eq_true, Bool.not_eq_true', Bool.not_eq_false', reduceCtorEq, Nat.le_refl, Nat.zero_mul, Nat.mul_one, Nat.zero_add, Int.reduceToNat, ones, one, add_mk, Decidable.not_not, cond_true, cond_false, true_implies, false_implies, implies_true, Bool.not_true, Bool.not_false]
  exact ⟨by rw [hn], Qt.refl w⟩
theorem get_spec (i : Int) (h : Stk w g F words L) : Calls Try.prog 23 #[.pointer (some ⟨g, 0, none⟩), .int .i64 i] w fun e w' =>
    e = .returned (.tuple #[.int .u64 ((onTop L (0, 20) (getF i)).1.1 : Nat), .int .i64 (onTop L (0, 20) (getF i)).1.2]) ∧ Qt w w' := by
  obtain ⟨gr, fs, cs, h, f1, f2, f3, f4⟩ := h
  refine vc_23 _ _ _ _ ?_
  simp only [eq_self, true_and, and_true, decide_eq_true_eq, decide_eq_false_iff_not, gd_st, gd_sf, exists_eq_left', exists_eq_left, Option.some.injEq, Sl.eta, Nat.reduceLeDiff, Int.reduceLE, Int.reduceLT, Int.reduceEq, Int.reduceNe, Nat.reduceMul, Nat.reduceAdd, Nat.reduceSub, Int.toNat_natCast, beq_iff_eq, bne_iff_ne, beq_eq_false_iff_ne, bne_eq_false_iff_eq, pick_and, pick_or, Bool.and_eq_true, Bool.or_eq_true, Bool.and_eq_false_iff, Bool.or_eq_false_iff, ne_eq, not_false_eq_true, Bool.not_eq_true', Bool.not_eq_false', reduceCtorEq, Nat.le_refl, Nat.zero_mul, Nat.mul_one, Nat.zero_add, Int.reduceToNat, ones, one, add_mk, Decidable.not_not, cond_true, cond_false, true_implies, false_implies, implies_true, Bool.not_true, Bool.not_false]
  rcases top_at L with rfl | ⟨A, f, rfl⟩
  · refine ⟨(top_out h).mono ?_⟩
    rintro e w1 ⟨rfl, hq⟩
    refine ⟨⟨none, 0, 0⟩, rfl, ?_⟩
    simp only [Option.isNone_none]
    simp only [eq_self, true_and, and_true, decide_eq_true_eq, decide_eq_false_iff_not, gd_st, gd_sf, exists_eq_left', exists_eq_left, Option.some.injEq, Sl.eta, Nat.reduceLeDiff, Int.reduceLE, Int.reduceLT, Int.reduceEq, Int.reduceNe, Nat.reduceMul, Nat.reduceAdd, Nat.reduceSub, Int.toNat_natCast, beq_iff_eq, bne_iff_ne, beq_eq_false_iff_ne, bne_eq_false_iff_eq, pick_and, pick_or, Bool.and_eq_true, Bool.or_eq_true, Bool.and_eq_false_iff, Bool.or_eq_false_iff, ne_eq, not_false_eq_true, Bool.not_eq_true', Bool.not_eq_false', reduceCtorEq, Nat.le_refl, Nat.zero_mul, Nat.mul_one, Nat.zero_add, Int.reduceToNat, ones, one, add_mk, Decidable.not_not, cond_true, cond_false, true_implies, false_implies, implies_true, Bool.not_true, Bool.not_false]
    exact ⟨rfl, hq⟩
  · refine ⟨(top_in h).mono ?_⟩
    rintro e w1 ⟨rfl, hq⟩
    have h1 := h.ext hq.ext
    have hr := h.room
    have hg := h.big
    have hz : f.size = 3 + f.ls.length + f.hi := rfl
    have hf := h1.at_
    refine ⟨⟨some ⟨gr, used A, none⟩, words - used A, words - used A⟩, rfl, ?_⟩
    simp only [Option.isNone_some]
    simp only [eq_self, true_and, and_true, decide_eq_true_eq, decide_eq_false_iff_not, gd_st, gd_sf, exists_eq_left', exists_eq_left, Option.some.injEq, Sl.eta, Nat.reduceLeDiff, Int.reduceLE, Int.reduceLT, Int.reduceEq, Int.reduceNe, Nat.reduceMul, Nat.reduceAdd, Nat.reduceSub, Int.toNat_natCast, beq_iff_eq, bne_iff_ne, beq_eq_false_iff_ne, bne_eq_false_iff_eq, pick_and, pick_or, Bool.and_eq_true, Bool.or_eq_true, Bool.and_eq_false_iff, Bool.or_eq_false_iff, ne_eq, not_false_eq_true, Bool.not_eq_true', Bool.not_eq_false', reduceCtorEq, Nat.le_refl, Nat.zero_mul, Nat.mul_one, Nat.zero_add, Int.reduceToNat, ones, one, add_mk, Decidable.not_not, cond_true, cond_false, true_implies, false_implies, implies_true, Bool.not_true, Bool.not_false]
    rw [onTop_snoc]
    refine ⟨fun h0 => ⟨(locals_spec h1 _ _ hf (by omega)).mono ?_⟩, fun h0 => ?_⟩
    · rintro e w2 ⟨rfl, hq2⟩
      refine ⟨_, rfl, fun hi => ?_, fun hi => ?_⟩
      · rw [getF, if_neg (by omega)]
        exact ⟨rfl, hq.trans hq2⟩
      · have hi' : i.toNat < f.ls.length := by omega
        rw [wrap_i64 (by omega) (by omega), getF, if_pos (by omega)]
        refine ⟨by omega, by omega, _, ?_, rfl, hq.trans hq2⟩
        refine (h1.ext hq2.ext).cellAt ?_
        rw [show used A + (3 + i).toNat = used A + 3 + i.toNat by omega]
        exact hf.ls _ _ (by simp [List.getD_eq_getElem?_getD, List.getElem?_eq_getElem hi'])
    · rw [getF, if_neg (by omega)]
      exact ⟨rfl, hq⟩
theorem peek_spec (i : Int) (h : Stk w g F words L) : Calls Try.prog 24 #[.pointer (some ⟨g, 0, none⟩), .int .i64 i] w fun e w' =>
    e = .returned (.tuple #[.int .u64 ((onTop L (0, 20) (peekF i)).1.1 : Nat), .int .i64 (onTop L (0, 20) (peekF i)).1.2]) ∧ Ext w w' := by
  obtain ⟨gr, fs, cs, h, f1, f2, f3, f4⟩ := h
  refine vc_24 _ _ _ _ ?_
  simp only [eq_self, true_and, and_true, decide_eq_true_eq, decide_eq_false_iff_not, gd_st, gd_sf, exists_eq_left', exists_eq_left, Option.some.injEq, Sl.eta, Nat.reduceLeDiff, Int.reduceLE, Int.reduceLT, Int.reduceEq, Int.reduceNe, Nat.reduceMul, Nat.reduceAdd, Nat.reduceSub, Int.toNat_natCast, beq_iff_eq, bne_iff_ne, beq_eq_false_iff_ne, bne_eq_false_iff_eq, pick_and, pick_or, Bool.and_eq_true, Bool.or_eq_true, Bool.and_eq_false_iff, Bool.or_eq_false_iff, ne_eq, not_false_eq_true, Bool.not_eq_true', Bool.not_eq_false', reduceCtorEq, Nat.le_refl, Nat.zero_mul, Nat.mul_one, Nat.zero_add, Int.reduceToNat, ones, one, add_mk, Decidable.not_not, cond_true, cond_false, true_implies, false_implies, implies_true, Bool.not_true, Bool.not_false]
  rcases top_at L with rfl | ⟨A, f, rfl⟩
  · refine ⟨(top_out h).mono ?_⟩
    rintro e w1 ⟨rfl, hq⟩
    refine ⟨⟨none, 0, 0⟩, rfl, ?_⟩
    simp only [Option.isNone_none]
    simp only [eq_self, true_and, and_true, decide_eq_true_eq, decide_eq_false_iff_not, gd_st, gd_sf, exists_eq_left', exists_eq_left, Option.some.injEq, Sl.eta, Nat.reduceLeDiff, Int.reduceLE, Int.reduceLT, Int.reduceEq, Int.reduceNe, Nat.reduceMul, Nat.reduceAdd, Nat.reduceSub, Int.toNat_natCast, beq_iff_eq, bne_iff_ne, beq_eq_false_iff_ne, bne_eq_false_iff_eq, pick_and, pick_or, Bool.and_eq_true, Bool.or_eq_true, Bool.and_eq_false_iff, Bool.or_eq_false_iff, ne_eq, not_false_eq_true, Bool.not_eq_true', Bool.not_eq_false', reduceCtorEq, Nat.le_refl, Nat.zero_mul, Nat.mul_one, Nat.zero_add, Int.reduceToNat, ones, one, add_mk, Decidable.not_not, cond_true, cond_false, true_implies, false_implies, implies_true, Bool.not_true, Bool.not_false]
    exact ⟨rfl, hq.ext⟩
  · refine ⟨(top_in h).mono ?_⟩
    rintro e w1 ⟨rfl, hq⟩
    have h1 := h.ext hq.ext
    have hr := h.room
    have hg := h.big
    have hz : f.size = 3 + f.ls.length + f.hi := rfl
    have hf := h1.at_
    have ho := hf.ok.ops
    refine ⟨⟨some ⟨gr, used A, none⟩, words - used A, words - used A⟩, rfl, ?_⟩
    simp only [Option.isNone_some]
    simp only [eq_self, true_and, and_true, decide_eq_true_eq, decide_eq_false_iff_not, gd_st, gd_sf, exists_eq_left', exists_eq_left, Option.some.injEq, Sl.eta, Nat.reduceLeDiff, Int.reduceLE, Int.reduceLT, Int.reduceEq, Int.reduceNe, Nat.reduceMul, Nat.reduceAdd, Nat.reduceSub, Int.toNat_natCast, beq_iff_eq, bne_iff_ne, beq_eq_false_iff_ne, bne_eq_false_iff_eq, pick_and, pick_or, Bool.and_eq_true, Bool.or_eq_true, Bool.and_eq_false_iff, Bool.or_eq_false_iff, ne_eq, not_false_eq_true, Bool.not_eq_true', Bool.not_eq_false', reduceCtorEq, Nat.le_refl, Nat.zero_mul, Nat.mul_one, Nat.zero_add, Int.reduceToNat, ones, one, add_mk, Decidable.not_not, cond_true, cond_false, true_implies, false_implies, implies_true, Bool.not_true, Bool.not_false]
    rw [onTop_snoc]
    refine ⟨fun h0 => ⟨by omega, _, h1.cellAt hf.ht, ?_, ?_⟩, fun h0 => ?_⟩
    · intro hi
      rw [wrap_i64 (by omega) (by omega)] at hi
      rw [peekF, if_neg (by omega)]
      exact ⟨rfl, hq.ext⟩
    · intro hi w2 hq2
      rw [wrap_i64 (by omega) (by omega)] at hi
      have h2 := h1.ext hq2.ext
      refine ⟨fun _ => False, by omega, _, fun w3 hu => (h2.ext hu).cellAt hf.ht, ⟨(locals_spec h2 _ _ hf (by omega)).mono ?_⟩⟩
      rintro e w3 ⟨rfl, hq3⟩
      refine ⟨_, rfl, hq3.ext, ?_⟩
      have h3 := h2.ext hq3.ext
      have hi' : f.ops.length - 1 - i.toNat < f.ops.length := by omega
      rw [wrap_i64 (n := (f.ops.length : Nat)) (by omega) (by omega), wrap_i64 (n := 3 + _) (by omega) (by omega), wrap_i64 (n := _ + ((f.ops.length : Nat) : Int)) (by omega) (by omega), wrap_i64 (n := _ - 1) (by omega) (by omega), wrap_i64 (n := _ - i) (by omega) (by omega)]
      rw [peekF, if_pos (by omega)]
      refine ⟨by omega, by omega, _, fun w4 hu => ?_, rfl, hq.ext.trans (hq2.ext.trans hq3.ext)⟩
      refine (h3.ext hu).cellAt ?_
      rw [show used A + (3 + (f.ls.length : Int) + (f.ops.length : Int) - 1 - i).toNat = used A + 3 + f.ls.length + (f.ops.length - 1 - i.toNat) by omega]
      exact hf.ops _ _ (by simp [List.getD_eq_getElem?_getD, List.getElem?_eq_getElem hi'])
    · rw [peekF, if_neg (by omega)]
      exact ⟨rfl, hq.ext⟩
end
end Go.Proofs.Ytodbmiflnellcaa.V
