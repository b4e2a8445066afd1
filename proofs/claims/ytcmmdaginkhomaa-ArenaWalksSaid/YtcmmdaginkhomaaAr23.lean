/-
  The document's example.
-/
import Derived.Test.YtcmmdaginkhomaaAr22
import Derived.Test.YtcmmdaginkhomaaVcC
namespace Go.Proofs.Ytcmmdaginkhomaa.V
open Go Go.RowKit
set_option linter.unusedVariables false
set_option linter.unusedSimpArgs false
set_option maxRecDepth 100000

def shH1 : Hd := ⟨1, 2, 2, 2⟩
def shH2 : Hd := ⟨2, 3, 0, 0⟩
def shA1 : Ar := (makeT (newA 10) shH1 [7, 0]).1
def shA2 : Ar := (makeT shA1 shH2 []).1
def shA3 : Ar := (setO shA2 1 1 5).1
def shA4 : Ar := (openT shA3).1
def shA5 : Ar := (copyT shA4 1).1
def shA6 : Ar := (closeT shA5 false).1
theorem sh_pack : packO shH1 = (4196361, true) := by kernel_rfl
theorem sh_1 : (makeT (newA 10) shH1 [7, 0]).2 = (1, 0) := by kernel_rfl
theorem sh_2 : (makeT shA1 shH2 []).2 = (5, 0) := by kernel_rfl
theorem sh_3 : (setO shA2 1 1 5).2 = 0 := by kernel_rfl
theorem sh_3c : cellO shA3 1 1 = (5, 0) := by kernel_rfl
theorem sh_3k : checkT shA3 = (0, 0) := by kernel_rfl
theorem sh_3u : shA3.use.e - shA3.use.f = 6 := by kernel_rfl
theorem sh_3l : shA3.n - (shA3.use.e - shA3.use.f) = 4 := by kernel_rfl
theorem sh_4 : (openT shA3).2 = 0 := by kernel_rfl
theorem sh_5 : (copyT shA4 1).2 = (11, 0) := by kernel_rfl
theorem sh_6 : (closeT shA5 false).2 = 0 := by kernel_rfl
theorem sh_6u : shA6.use.e - shA6.use.f = 4 := by kernel_rfl
theorem shown_spec (w : World) : Calls Try.prog 11 #[] w fun e w' => e = .returned (.bool true) ∧ Ext w w' := by
  refine vc_11 _ _ ?_
  simp only [eq_self, false_or, or_false, true_and, and_true, decide_eq_true_eq, decide_eq_false_iff_not, gd_st, gd_sf, exists_eq_left', exists_eq_left, Option.some.injEq, Sl.eta, Nat.reduceLeDiff, Int.reduceLE, Int.reduceLT, Int.reduceEq, Int.reduceNe, Nat.reduceMul, Nat.reduceAdd, Nat.reduceSub, Int.toNat_natCast, beq_iff_eq, bne_iff_ne, beq_eq_false_iff_ne, bne_eq_false_iff_eq, pick_and, pick_or, Bool.and_eq_true, Bool.or_eq_true, Bool.and_eq_false_iff, Bool.or_eq_false_iff, ne_eq, not_false_eq_true, Bool.not_eq_true', Bool.not_eq_false', reduceCtorEq, Nat.le_refl, Nat.zero_mul, Nat.mul_one, Nat.zero_add, Int.reduceToNat, ones, one, add_mk, Decidable.not_not, cond_true, cond_false, true_implies, false_implies, implies_true, Bool.not_true, Bool.not_false]
  refine ⟨(new_spec (n := 10) (by decide) w).mono ?_⟩
  rintro e w1 ⟨x1, ⟨hno, _⟩ | ⟨k, b, g, hk, _, rfl, hb, hg, a1⟩⟩
  · exact absurd (by decide) hno
  obtain rfl : k = 10 := by omega
  refine ⟨_, _, rfl, fun _ => ⟨fun h => absurd rfl h, fun _ => ⟨(all_spec g w1).mono ?_⟩⟩, fun h => (by cases h)⟩
  rintro e w2 ⟨rfl, _, x2⟩
  refine ⟨_, rfl, fun w3 n3 => ⟨HB.can n3, fun w4 s4 => ?_⟩⟩
  obtain ⟨b4, y4⟩ := HB.made (h := shH1) n3 s4
  refine ⟨_, _, _, _, rfl, ⟨b4.cell 0, b4.cell 1, b4.cell 2, b4.cell 3⟩, ⟨(pack_spec shH1 w4).mono ?_⟩⟩
  rintro e w5 ⟨rfl, x5⟩
  rw [sh_pack]
  have b5 := b4.ext x5
  refine ⟨_, _, rfl, _, _, _, _, rfl, ⟨b5.cell 0, b5.cell 1, b5.cell 2, b5.cell 3⟩, fun w6 n6 => ?_⟩
  have x16 := ((x2.trans y4).trans x5).trans n6.ext
  have x06 := x1.trans x16
  have a6 := a1.ext x16
  have k6 := Blk.new n6
  have rd6 : Rd w6 1 ⟨some ⟨w5.heap.size, 0, none⟩, 2, 2⟩ (uv [7, 0]) := k6.rd (z := 1) (o := 0) (n := 2) (c := 2) (by simp)
  have z5 := ((x2.trans y4).trans x5).size
  have hbl := a1.ws.lt; have hgl := a1.hd.lt
  refine ⟨(make_spec a6 shH1 rd6 (by rintro p hp; cases hp; rintro (h | h) <;> (dsimp only at h; omega)) (by simp) (by decide)).mono ?_⟩
  rintro e w7 ⟨rfl, a7, u7⟩
  rw [sh_1]
  have a7' : ArW 92 w7 b g shA1 := a7
  refine ⟨_, _, rfl, ⟨(make_spec a7' shH2 (s := ⟨none, 0, 0⟩) (cs := []) (Rd.nil _ _ _ _) (by rintro p hp; cases hp) (by simp) (by simp)).mono ?_⟩⟩
  rintro e w8 ⟨rfl, a8, u8⟩
  rw [sh_2]
  have a8' : ArW 92 w8 b g shA2 := a8
  refine ⟨_, _, rfl, ⟨(SetCell_spec a8' (r := 1) (by decide) (i := 1) (by decide) (x := 5) (by decide)).mono ?_⟩⟩
  rintro e w9 ⟨rfl, a9, u9⟩
  rw [sh_3]
  have a9' : ArW 92 w9 b g shA3 := a9
  refine ⟨_, rfl, ⟨(Cell_spec a9' (r := 1) (by decide) (i := 1) (by decide)).mono ?_⟩⟩
  rintro e w10 ⟨rfl, x10⟩
  rw [sh_3c]
  have a10 := a9'.ext x10
  refine ⟨_, _, rfl, ⟨(check_spec a10).mono ?_⟩⟩
  rintro e w11 ⟨rfl, x11⟩
  rw [sh_3k]
  have a11 := a10.ext x11
  refine ⟨_, _, rfl, ⟨fun _ => ⟨fun _ => ⟨fun _ => ⟨fun _ => ⟨fun _ => ⟨fun _ => ⟨fun _ => ⟨fun _ => ⟨fun _ => ⟨fun _ => ⟨fun _ => ⟨(used_spec a11).mono ?_⟩, fun h => absurd rfl h⟩, fun h => absurd rfl h⟩, fun h => absurd rfl h⟩, fun h => absurd rfl h⟩, fun h => absurd rfl h⟩, fun h => absurd rfl h⟩, fun h => absurd rfl h⟩, fun h => absurd rfl h⟩, fun h => absurd rfl h⟩, fun h => absurd rfl h⟩, fun h => (by cases h)⟩⟩
  rintro e w12 ⟨rfl, q12⟩
  rw [sh_3u]
  have a12 := a11.ext q12.ext
  refine ⟨_, rfl, fun _ => ⟨(left_spec a12).mono ?_⟩, fun h => absurd rfl h⟩
  rintro e w13 ⟨rfl, q13⟩
  rw [sh_3l]
  have a13 := a12.ext q13.ext
  refine ⟨_, rfl, fun h => absurd rfl h, fun _ => ⟨(open_spec a13).mono ?_⟩⟩
  rintro e w14 ⟨rfl, a14, u14⟩
  rw [sh_4]
  have a14' : ArW 92 w14 b g shA4 := a14
  refine ⟨_, rfl, ⟨(copy_spec a14' (r := 1) (by decide)).mono ?_⟩⟩
  rintro e w15 ⟨rfl, a15, u15⟩
  rw [sh_5]
  have a15' : ArW 92 w15 b g shA5 := a15
  refine ⟨_, _, rfl, ⟨(close_spec a15' false).mono ?_⟩⟩
  rintro e w16 ⟨rfl, a16, u16⟩
  rw [sh_6]
  have a16' : ArW 92 w16 b g shA6 := a16
  refine ⟨_, rfl, ⟨fun _ => ⟨fun _ => ⟨fun _ => ⟨fun _ => ⟨(used_spec a16').mono ?_⟩, fun h => absurd rfl h⟩, fun h => absurd rfl h⟩, fun h => absurd rfl h⟩, fun h => absurd rfl h⟩⟩
  rintro e w17 ⟨rfl, q17⟩
  rw [sh_6u]
  refine ⟨_, rfl, rfl, ?_⟩
  have f : ∀ {v v' : World} {S : Nat → Prop}, Ext w v → Upd S v v' → (∀ i, S i → w.heap.size ≤ i) → Ext w v' := fun x u h => x.fresh u h
  have hbg : ∀ i, (i = b ∨ i = g) → w.heap.size ≤ i := by rintro i (rfl | rfl) <;> assumption
  have x9 := f (f (f x06 u7 hbg) u8 hbg) u9 (by rintro i rfl; exact hb)
  have x13 := (((x9.trans x10).trans x11).trans q12.ext).trans q13.ext
  exact (f (f (f x13 u14 (by rintro i rfl; exact hg)) u15 hbg) u16 hbg).trans q17.ext
end Go.Proofs.Ytcmmdaginkhomaa.V
