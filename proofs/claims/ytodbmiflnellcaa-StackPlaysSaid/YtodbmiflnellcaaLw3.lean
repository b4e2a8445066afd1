/-
  Law StackSlots.
-/
import Derived.Test.YtodbmiflnellcaaLw2
import Derived.Test.YtodbmiflnellcaaVcE
namespace Go.Proofs.Ytodbmiflnellcaa.V
open Go Go.RowKit
set_option linter.unusedVariables false
set_option linter.unusedSimpArgs false

abbrev OpR : Rw := .cons (.int .i64) (.cons (.int .i64) (.cons (.int .i64) (.cons (.int .i64) (.cons (.int .u64) .nil))))
/-- an element of a script -/
theorem op_at {w : World} {v : Value} {x : (Dt.sl 40 OpR).T} (h : (Dt.sl 40 OpR).Is w v x) : v = .slice x.1.a x.1.n x.1.c ∧ x.1.n ≤ x.1.c ∧ x.1.n ≤ 4398046511104 ∧
    ∀ i, i < x.1.n → ∃ (p : Addr) (k a b c : Int) (n : Nat), x.1.a = some p ∧ -9223372036854775808 ≤ k ∧ k ≤ 9223372036854775807 ∧ -9223372036854775808 ≤ a ∧ a ≤ 9223372036854775807 ∧
      -9223372036854775808 ≤ b ∧ b ≤ 9223372036854775807 ∧ -9223372036854775808 ≤ c ∧ c ≤ 9223372036854775807 ∧ ∀ w', Ext w w' →
      w'.cell? ((p.add (i * 5)).add 0) = some (.int .i64 k) ∧ w'.cell? ((p.add (i * 5)).add 1) = some (.int .i64 a) ∧ w'.cell? ((p.add (i * 5)).add 2) = some (.int .i64 b) ∧
      w'.cell? ((p.add (i * 5)).add 3) = some (.int .i64 c) ∧ w'.cell? ((p.add (i * 5)).add 4) = some (.int .u64 (n : Nat)) := by
  simp only [Dt.Is] at h
  obtain ⟨h1, h2, h3, h4, h5, h6, h7⟩ := h
  rw [reach_eq] at h5
  refine ⟨h1, h3, by omega, fun i hi => ?_⟩
  obtain ⟨y, hy⟩ : ∃ y, x.2[i]? = some y := ⟨_, List.getElem?_eq_getElem (by omega)⟩
  obtain ⟨p, vs, hp, ha, hl, hi'⟩ := h7 i y hy
  simp only [Rw.Is, Dt.Is] at hi'
  obtain ⟨_, _, rfl, ⟨rfl, w0⟩, _, _, rfl, ⟨rfl, w1⟩, _, _, rfl, ⟨rfl, w2⟩, _, _, rfl, ⟨rfl, w3⟩, _, _, rfl, ⟨rfl, w4⟩, rfl⟩ := hi'
  have b0 := wf_i64 w0
  have b1 := wf_i64 w1
  have b2 := wf_i64 w2
  have b3 := wf_i64 w3
  have b4 := wf_u64 w4
  refine ⟨p, y.1, y.2.1, y.2.2.1, y.2.2.2.1, Int.toNat y.2.2.2.2.1, hp, b0.1, b0.2, b1.1, b1.2, b2.1, b2.2, b3.1, b3.2, fun w' u => ?_⟩
  have ha := ha.upd u not_false
  refine ⟨ha 0 _ rfl, ha 1 _ rfl, ha 2 _ rfl, ha 3 _ rfl, ?_⟩
  rw [Int.toNat_of_nonneg b4.1]
  exact ha 4 _ rfl

/-- what no call on the top turns -/
structure Kept (f f' : Fr) : Prop where
  fn : f'.fn = f.fn
  ls : f'.ls.length = f.ls.length
  hi : f'.hi = f.hi
theorem kept_push (x : Nat) (f : Fr) : Kept f (pushF x f).2 := by unfold pushF; split <;> exact ⟨rfl, rfl, rfl⟩
theorem kept_pop (f : Fr) : Kept f (popF f).2 := by unfold popF; split <;> exact ⟨rfl, rfl, rfl⟩
theorem kept_set (i : Int) (x : Nat) (f : Fr) : Kept f (setF i x f).2 := by unfold setF; split <;> exact ⟨rfl, by simp, rfl⟩
theorem kept_goto (a : Int) (f : Fr) : Kept f (gotoF a f).2 := by unfold gotoF; split <;> exact ⟨rfl, rfl, rfl⟩
theorem kept_setSlot (i : Int) (x : Nat) (f : Fr) : Kept f (setSlotF i x f).2 := by
  unfold setSlotF
  split
  · split
    · exact ⟨rfl, by simp, rfl⟩
    · exact ⟨rfl, rfl, rfl⟩
  · exact ⟨rfl, rfl, rfl⟩
theorem Kept.size {f f' : Fr} (h : Kept f f') : f'.size = f.size := by unfold Fr.size; rw [h.ls, h.hi]
theorem Kept.trans {f f' f'' : Fr} (h : Kept f f') (k : Kept f' f'') : Kept f f'' := ⟨k.fn.trans h.fn, k.ls.trans h.ls, k.hi.trans h.hi⟩

/-- a stack whose top is of this form -/
def TopAt (w0 w : World) (g words : Nat) (L0 : List Fr) (f0 : Fr) : Prop := ∃ F f, Live w0 w g F words (L0 ++ [f]) ∧ Kept f0 f
section
variable {w0 w w' : World} {g words : Nat} {L0 : List Fr} {f0 : Fr}
theorem TopAt.qt (h : TopAt w0 w g words L0 f0) (x : Ext w w') : TopAt w0 w' g words L0 f0 := by
  obtain ⟨F, f, h, k⟩ := h
  exact ⟨F, f, h.qt x, k⟩
theorem TopAt.ext (h : TopAt w0 w g words L0 f0) : Ext w0 w := by
  obtain ⟨F, f, h, k⟩ := h
  exact h.ext
theorem top_push (x : Nat) (h : TopAt w0 w g words L0 f0) : Calls Try.prog 12 #[.pointer (some ⟨g, 0, none⟩), .int .u64 (x : Nat)] w fun e w' =>
    ∃ n, e = .returned (.int .i64 n) ∧ TopAt w0 w' g words L0 f0 := by
  obtain ⟨F, f, h, k⟩ := h
  refine (push_spec x h.stk).mono ?_
  rintro e w1 ⟨rfl, hs, hu⟩
  rw [onTop_snoc] at hs
  exact ⟨_, rfl, F, _, h.stay hu hs, k.trans (kept_push x f)⟩
theorem top_pop (h : TopAt w0 w g words L0 f0) : Calls Try.prog 14 #[.pointer (some ⟨g, 0, none⟩)] w fun e w' =>
    ∃ n m, e = .returned (.tuple #[.int .u64 n, .int .i64 m]) ∧ TopAt w0 w' g words L0 f0 := by
  obtain ⟨F, f, h, k⟩ := h
  refine (pop_spec h.stk).mono ?_
  rintro e w1 ⟨rfl, hs, hu⟩
  rw [onTop_snoc] at hs
  exact ⟨_, _, rfl, F, _, h.stay hu hs, k.trans (kept_pop f)⟩
theorem top_set (i : Int) (x : Nat) (h : TopAt w0 w g words L0 f0) : Calls Try.prog 13 #[.pointer (some ⟨g, 0, none⟩), .int .i64 i, .int .u64 (x : Nat)] w fun e w' =>
    ∃ n, e = .returned (.int .i64 n) ∧ TopAt w0 w' g words L0 f0 := by
  obtain ⟨F, f, h, k⟩ := h
  refine (set_spec i x h.stk).mono ?_
  rintro e w1 ⟨rfl, hs, hu⟩
  rw [onTop_snoc] at hs
  exact ⟨_, rfl, F, _, h.stay hu hs, k.trans (kept_set i x f)⟩
theorem top_goto (a : Int) (h : TopAt w0 w g words L0 f0) : Calls Try.prog 15 #[.pointer (some ⟨g, 0, none⟩), .int .i64 a] w fun e w' =>
    ∃ n, e = .returned (.int .i64 n) ∧ TopAt w0 w' g words L0 f0 := by
  obtain ⟨F, f, h, k⟩ := h
  refine (goto_spec a h.stk).mono ?_
  rintro e w1 ⟨rfl, hs, hu⟩
  rw [onTop_snoc] at hs
  exact ⟨_, rfl, F, _, h.stay hu hs, k.trans (kept_goto a f)⟩
theorem top_setSlot (i : Int) (x : Nat) (h : TopAt w0 w g words L0 f0) :
    Calls Try.prog 19 #[.pointer (some ⟨g, 0, none⟩), .int .i64 (L0.length : Nat), .int .i64 i, .int .u64 (x : Nat)] w fun e w' =>
    ∃ n, e = .returned (.int .i64 n) ∧ TopAt w0 w' g words L0 f0 := by
  obtain ⟨F, f, h, k⟩ := h
  refine (setSlot_spec _ i x h.stk).mono ?_
  rintro e w1 ⟨rfl, hs, hu⟩
  rw [onAt_in] at hs
  exact ⟨_, rfl, F, _, h.stay hu hs, k.trans (kept_setSlot i x f)⟩
theorem top_frame {F : Nat → Prop} {f : Fr} (h : Live w0 w g F words (L0 ++ [f])) : Calls Try.prog 20 #[.pointer (some ⟨g, 0, none⟩), .int .i64 (L0.length : Nat)] w fun e w' =>
    Ext w w' ∧ ∃ a b, f.Ok ∧ e = .returned (.tuple #[fv f.fn f.at_ a b, .bool true]) ∧ Told w' w.heap.size f a b := by
  refine (frameT_spec _ h.stk).mono ?_
  rintro e w1 ⟨x, ⟨hbad, _⟩ | ⟨A, f', C, a, b, hL, hk, hok, rfl, td⟩⟩
  · simp at hbad; omega
  · have hk' : L0.length = A.length := by omega
    obtain ⟨rfl, h2⟩ := List.append_inj hL hk'
    injection h2 with h2 _
    subst h2
    exact ⟨x, a, b, hok, rfl, td⟩
end
end Go.Proofs.Ytodbmiflnellcaa.V
