/-
  The document's example.
-/
import Derived.Test.YtggpomialmpgoaaHp3
namespace Go.Proofs.Ytggpomialmpgoaa.V
open Go Go.RowKit
set_option linter.unusedVariables false
set_option linter.unusedSimpArgs false
set_option maxRecDepth 100000

def shH : Hd := ⟨1, 2, 2, 2⟩
def sh0 : Hp := ⟨newA 8, [2], false, false, 0, 0, 0⟩
def sh1 : Hp := mkT sh0 shH [1, 0]
def sh2 : Hp := mkT sh1 shH [2, 1]
def sh3 : Hp := mkT sh2 shH [3, 0]
def sh4 : Hp := colT sh3 [5]
theorem sh_d0 : dueT sh0 shH = false := by kernel_rfl
theorem sh_d2 : dueT sh2 shH = true := by kernel_rfl
theorem sh_d4 : dueT sh4 shH = false := by kernel_rfl
theorem sh_m0 : (makeT sh0.A shH [1, 0]).2 = (1, 0) := by kernel_rfl
theorem sh_m1 : (makeT sh1.A shH [2, 1]).2 = (5, 0) := by kernel_rfl
theorem sh_m2 : (makeT sh2.A shH [3, 0]).2 = (0, 18) := by kernel_rfl
theorem sh_ok : okR sh3.A [5] = true := by kernel_rfl
theorem sh_o : sh3.A.opn = false := by kernel_rfl
theorem sh_c : (collectT sh3.A [5] sh3.zero).2 = ([9], 0) := by kernel_rfl
theorem sh_s : (sh4.al, sh4.co, sh4.cp) = (2, 1, 8) := by kernel_rfl
theorem shown_spec (w : World) : Calls Try.prog 8 #[] w fun e w' => e = .returned (.bool true) ∧ Ext w w' := by
  refine vc_8 _ _ ?_
  simp only [eq_self, false_or, or_false, true_and, and_true, decide_eq_true_eq, decide_eq_false_iff_not, gd_st, gd_sf, exists_eq_left', exists_eq_left, Option.some.injEq, Sl.eta, Nat.reduceLeDiff, Int.reduceLE, Int.reduceLT, Int.reduceEq, Int.reduceNe, Nat.reduceMul, Nat.reduceAdd, Nat.reduceSub, Int.toNat_natCast, beq_iff_eq, bne_iff_ne, beq_eq_false_iff_ne, bne_eq_false_iff_eq, pick_and, pick_or, Bool.and_eq_true, Bool.or_eq_true, Bool.and_eq_false_iff, Bool.or_eq_false_iff, ne_eq, not_false_eq_true, Bool.not_eq_true', Bool.not_eq_false', reduceCtorEq, Nat.le_refl, Nat.zero_mul, Nat.mul_one, Nat.zero_add, Int.reduceToNat, ones, one, add_mk, Decidable.not_not, cond_true, cond_false, true_implies, false_implies, implies_true, Bool.not_true, Bool.not_false]
  intro w1 n1
  have z1 := n1.size
  refine ⟨(newH_spec (n := 8) (by decide) (fl := [2]) (l := ⟨some ⟨w.heap.size, 0, none⟩, 1, 1⟩) ((Blk.new n1).rd (z := 1) (o := 0) (n := 1) (c := 1) (by simp)) false).mono ?_⟩
  have e0 : newHT 8 [2] false = some sh0 := by
    unfold newHT
    rw [if_pos ⟨by decide, by decide, by decide, by decide⟩]; rfl
  rintro e w2 ⟨x2, ⟨hno, _⟩ | ⟨x, b, g, r, H, hH, rfl, hx, hb, hg, hr, h2⟩⟩
  · rw [e0] at hno; cases hno
  rw [e0] at hH
  injection hH with hH; subst hH
  have lt2 := h2.lt
  have z2 := x2.size
  refine ⟨_, _, rfl, fun _ => ⟨fun _ => ⟨_, rfl, _, h2.hd.cell 0, fun h => (by cases h), fun _ w3 n3 => ⟨HB.can n3, fun w4 s4 => ?_⟩⟩, fun h => absurd rfl h⟩, fun h => (by cases h)⟩
  obtain ⟨hb4, x24⟩ := HB.made (h := shH) n3 s4
  have z24 := x24.size
  have x04 := (n1.ext.trans x2).trans x24
  have f : ∀ {v v' : World} {S : Nat → Prop}, Ext w v → Upd S v v' → (∀ i, S i → w1.heap.size ≤ i) → Ext w v' := fun x u h => x.fresh u fun i hi => by have := h i hi; omega
  refine ⟨_, _, _, _, rfl, ⟨hb4.cell 0, hb4.cell 1, hb4.cell 2, hb4.cell 3⟩, ⟨(due_spec (h2.ext x24) shH).mono ?_⟩⟩
  rintro e w5 ⟨rfl, x5⟩
  rw [sh_d0]
  have z5 := x5.size
  have hb5 := hb4.ext x5
  refine ⟨_, rfl, _, _, _, _, rfl, ⟨hb5.cell 0, hb5.cell 1, hb5.cell 2, hb5.cell 3⟩, fun w6 n6 => ?_⟩
  have z6 := n6.size
  have x26 := (x24.trans x5).trans n6.ext
  refine ⟨(makeH_spec (h2.ext x26) shH (s := ⟨some ⟨w5.heap.size, 0, none⟩, 2, 2⟩) (cs := [1, 0]) ((Blk.new n6).rd (z := 1) (o := 0) (n := 2) (c := 2) (by simp)) (by rintro p hp; cases hp; rintro (h | h) <;> (dsimp only at h; omega)) (by simp) (by decide)).mono ?_⟩
  rintro e w7 ⟨rfl, h7, u7⟩
  rw [sh_m0]
  have h7' : HpW w7 x b g r sh1 := h7
  have z7 := u7.size
  have hb7 := (hb5.ext n6.ext).upd u7 (by omega)
  have x07 := f (x04.trans (x5.trans n6.ext)) u7 (by rintro i (rfl | rfl | rfl) <;> omega)
  refine ⟨_, _, rfl, _, _, _, _, rfl, ⟨hb7.cell 0, hb7.cell 1, hb7.cell 2, hb7.cell 3⟩, fun w8 n8 => ?_⟩
  have z8 := n8.size
  refine ⟨(makeH_spec (h7'.ext n8.ext) shH (s := ⟨some ⟨w7.heap.size, 0, none⟩, 2, 2⟩) (cs := [2, 1]) ((Blk.new n8).rd (z := 1) (o := 0) (n := 2) (c := 2) (by simp)) (by rintro p hp; cases hp; rintro (h | h) <;> (dsimp only at h; omega)) (by simp) (by decide)).mono ?_⟩
  rintro e w9 ⟨rfl, h9, u9⟩
  rw [sh_m1]
  have h9' : HpW w9 x b g r sh2 := h9
  have z9 := u9.size
  have hb9 := (hb7.ext n8.ext).upd u9 (by omega)
  have x09 := f (x07.trans n8.ext) u9 (by rintro i (rfl | rfl | rfl) <;> omega)
  refine ⟨_, _, rfl, _, _, _, _, rfl, ⟨hb9.cell 0, hb9.cell 1, hb9.cell 2, hb9.cell 3⟩, ⟨(due_spec h9' shH).mono ?_⟩⟩
  rintro e w10 ⟨rfl, x10⟩
  rw [sh_d2]
  have hb10 := hb9.ext x10
  have z10 := x10.size
  refine ⟨_, rfl, _, _, _, _, rfl, ⟨hb10.cell 0, hb10.cell 1, hb10.cell 2, hb10.cell 3⟩, fun w11 n11 => ?_⟩
  have z11 := n11.size
  refine ⟨(makeH_spec ((h9'.ext x10).ext n11.ext) shH (s := ⟨some ⟨w10.heap.size, 0, none⟩, 2, 2⟩) (cs := [3, 0]) ((Blk.new n11).rd (z := 1) (o := 0) (n := 2) (c := 2) (by simp)) (by rintro p hp; cases hp; rintro (h | h) <;> (dsimp only at h; omega)) (by simp) (by decide)).mono ?_⟩
  rintro e w12 ⟨rfl, h12, u12⟩
  rw [sh_m2]
  have h12' : HpW w12 x b g r sh3 := h12
  have z12 := u12.size
  have hb12 := (hb10.ext n11.ext).upd u12 (by omega)
  have x012 := f (x09.trans (x10.trans n11.ext)) u12 (by rintro i (rfl | rfl | rfl) <;> omega)
  refine ⟨_, _, rfl, fun w13 n13 => ?_⟩
  have z13 := n13.size
  refine ⟨(collectH_spec (h12'.ext n13.ext) sh_o (l := ⟨some ⟨w12.heap.size, 0, none⟩, 1, 1⟩) (ls := [5]) ((Blk.new n13).rd (z := 1) (o := 0) (n := 1) (c := 1) (by simp)) (by rintro q hq; cases hq; dsimp only; omega) (by decide) (by decide)).mono ?_⟩
  rintro e w14 (⟨hno, _⟩ | ⟨_, nb, rfl, h14, nb14, hnb, u14⟩)
  · rw [sh_ok] at hno; cases hno
  rw [sh_c] at nb14 ⊢
  have h14' : HpW w14 x b g r sh4 := h14
  have z14 := u14.size
  have hb14 := (hb12.ext n13.ext).upd u14 (by omega)
  have x014 := f (x012.trans n13.ext) u14 (by rintro i (rfl | rfl | rfl) <;> omega)
  refine ⟨⟨some ⟨nb, 0, none⟩, 1, 1⟩, _, rfl, _, _, _, _, rfl, ⟨hb14.cell 0, hb14.cell 1, hb14.cell 2, hb14.cell 3⟩, ⟨(due_spec h14' shH).mono ?_⟩⟩
  rintro e w15 ⟨rfl, x15⟩
  rw [sh_d4]
  have hc : w15.cell? ((⟨nb, 0, none⟩ : Addr).add 0) = some (.int .u64 ((9 : Nat) : Int)) := by
    rw [add_mk, Nat.zero_add, (nb14.ext x15).cell]; rfl
  refine ⟨_, rfl, fun _ => ⟨fun _ => ⟨fun _ => ⟨fun _ => ⟨fun _ => ⟨fun _ => ⟨fun _ => ⟨fun _ => ⟨by dsimp only; omega, _, rfl, _, hc, fun _ => ⟨fun _ => ⟨fun _ => ⟨(stats_spec (h14'.ext x15)).mono ?_⟩, fun h => (by cases h)⟩, fun h => absurd rfl h⟩, fun h => absurd rfl h⟩, fun h => absurd rfl h⟩, fun h => absurd rfl h⟩, fun h => (by cases h)⟩, fun h => absurd rfl h⟩, fun h => absurd rfl h⟩, fun h => absurd rfl h⟩, fun h => absurd rfl h⟩, fun h => (by cases h)⟩
  rintro e w16 ⟨rfl, x16⟩
  have e := sh_s
  have e1 : sh4.al = 2 := congrArg Prod.fst e
  have e2 : sh4.co = 1 := congrArg (fun p => p.2.1) e
  have e3 : sh4.cp = 8 := congrArg (fun p => p.2.2) e
  rw [e1, e2, e3]
  exact ⟨_, _, _, rfl, rfl, (x014.trans x15).trans x16⟩
end Go.Proofs.Ytggpomialmpgoaa.V
