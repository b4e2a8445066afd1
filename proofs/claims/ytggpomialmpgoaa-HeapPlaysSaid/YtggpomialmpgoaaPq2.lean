/-
  An element of a script; the cells of a Make.
-/
import Derived.Test.YtggpomialmpgoaaPq1
namespace Go.Proofs.Ytggpomialmpgoaa.V
open Go Go.RowKit
set_option linter.unusedVariables false
set_option linter.unusedSimpArgs false
set_option maxRecDepth 100000

structure OpV where
  k : Int
  h : Hd
  c : Sl
  l : Sl
  R : Int
  I : Int
  x : Nat
  z : Bool
structure OpV.Ok (w0 : World) (o : OpV) (cs : List Nat) (ls : List Int) : Prop where
  k : -9223372036854775808 ≤ o.k ∧ o.k ≤ 9223372036854775807
  R : -9223372036854775808 ≤ o.R ∧ o.R ≤ 9223372036854775807
  I : -9223372036854775808 ≤ o.I ∧ o.I ≤ 9223372036854775807
  x : o.x < 18446744073709551616
  r : o.h.r < 18446744073709551616
  rd : Rd w0 1 o.c (uv cs)
  m : cs.length ≤ 17592186043904
  lt : ∀ y ∈ cs, y < 18446744073709551616
  rl : Rd w0 1 o.l (iv ls)
  ml : ls.length ≤ 17592186043904
  li : ∀ y ∈ ls, -9223372036854775808 ≤ y ∧ y ≤ 9223372036854775807
abbrev opL (o : OpV) : List Value := [.int .i64 o.k, .int .i64 o.h.k, .int .i64 o.h.t, .int .i64 o.h.l, .int .u64 (o.h.r : Nat), .slice o.c.a o.c.n o.c.c, .slice o.l.a o.l.n o.l.c, .int .i64 o.R, .int .i64 o.I, .int .u64 (o.x : Nat), .bool o.z]
abbrev opV (o : OpV) : Value := .agg #[.int .i64 o.k, .int .i64 o.h.k, .int .i64 o.h.t, .int .i64 o.h.l, .int .u64 (o.h.r : Nat), .slice o.c.a o.c.n o.c.c, .slice o.l.a o.l.n o.l.c, .int .i64 o.R, .int .i64 o.I, .int .u64 (o.x : Nat), .bool o.z]
section
variable {w0 w : World} {a : Ad} {H H1 H2 : Hp} {s : Sl} {rs : List Nat} {o : OpV} {cs : List Nat} {ls : List Int}
theorem cells_spec (h : Pq w0 w a H1 H2 s rs) (ok : o.Ok w0 cs ls) (hl : rs.length ≤ 20000000000000) :
    Calls Try.prog 47 #[.pointer (some ⟨a.P, 0, none⟩), opV o] w fun e w' =>
      ∃ (sl : Sl) (cs' : List Nat), e = .returned (.slice sl.a sl.n sl.c) ∧ Own w' w.heap.size 35 1 sl (uv cs') ∧ cs'.length = cs.length ∧ (∀ y ∈ cs', y < 18446744073709551616) ∧ Ext w w' := by
  refine vc_47 _ _ _ _ _ _ _ _ _ _ _ _ _ _ ?_
  have hrd := ok.rd.ext h.xx
  have hn := hrd.lenu
  have hm := ok.m
  simp only [eq_self, false_or, or_false, true_and, and_true, decide_eq_true_eq, decide_eq_false_iff_not, gd_st, gd_sf, exists_eq_left', exists_eq_left, Option.some.injEq, Sl.eta, Nat.reduceLeDiff, Int.reduceLE, Int.reduceLT, Int.reduceEq, Int.reduceNe, Nat.reduceMul, Nat.reduceAdd, Nat.reduceSub, Int.toNat_natCast, beq_iff_eq, bne_iff_ne, beq_eq_false_iff_ne, bne_eq_false_iff_eq, pick_and, pick_or, Bool.and_eq_true, Bool.or_eq_true, Bool.and_eq_false_iff, Bool.or_eq_false_iff, ne_eq, not_false_eq_true, Bool.not_eq_true', Bool.not_eq_false', reduceCtorEq, Nat.le_refl, Nat.zero_mul, Nat.mul_one, Nat.zero_add, Int.reduceToNat, ones, one, add_mk, Decidable.not_not, cond_true, cond_false, true_implies, false_implies, implies_true, Bool.not_true, Bool.not_false]
  intro w1 n1 w2 n2
  have z1 := n1.size; have z2 := n2.size
  have B1 := Blk.new n1
  have o2 : Own w2 w.heap.size 35 1 ⟨some ⟨w1.heap.size, 0, none⟩, 0, 0⟩ (uv []) := Own.lit (z := 1) (n := 0) (cs := []) n2 (by omega) rfl (by decide)
  refine ⟨o.c, (B1.ext n2.ext).cell 5, ?_⟩
  obtain ⟨sl, w3, hr3, hn3, o3, u3, c3⟩ := o2.append (t := 38) (ty := 38) tab_ok (by rfl) (by rfl) (by decide) (hrd.ext (n1.ext.trans n2.ext)) (uv_ones _) (by dsimp only; omega) (by dsimp only; omega) (by omega)
  have x23 : Ext w1 w3 := n2.ext.fresh u3 (by rintro i ⟨q, hq, rfl⟩; injection hq with hq; subst hq; exact Nat.le_refl _)
  have hsn : sl.n = cs.length := by rw [hn3]; dsimp only; omega
  have B3 := B1.ext x23
  refine ⟨sl, w3, hr3, fun i w' => ∃ (k : Nat) (cs' : List Nat), i = (k : Nat) ∧ k ≤ cs.length ∧ Own w' w.heap.size 35 1 sl (uv cs') ∧ cs'.length = cs.length ∧ (∀ y ∈ cs', y < 18446744073709551616) ∧ Blk w' w.heap.size 67 (opL o) ∧ Ext w w', fun i _ => (cs.length - i).toNat,
    ⟨0, cs, rfl, Nat.zero_le _, o3, rfl, ok.lt, B3, n1.ext.trans x23⟩, ?_⟩
  rintro _ i w4 ⟨k, cs', rfl, hk, o4, hl4, lt4, B4, x4⟩
  have ei : IntKind.i64.wrap ((k : Int) + 1) = ((k + 1 : Nat) : Int) := by rw [wrap_i64 (by omega) (by omega)]; omega
  rw [ei]
  refine ⟨fun hlt => ⟨_, B4.cell 3, fun hlt2 => ⟨_, _, _, _, rfl, ⟨B4.cell 1, B4.cell 2, B4.cell 3, B4.cell 4⟩, ⟨(refs_any o.h (k : Nat) ok.r w4).mono ?_⟩⟩, fun _ => ⟨sl, cs', rfl, o4, hl4, lt4, x4⟩⟩, fun _ => ⟨sl, cs', rfl, o4, hl4, lt4, x4⟩⟩
  rintro e w5 ⟨bb, rfl, x5⟩
  have o5 := o4.ext x5
  have B5 := B4.ext x5
  have x05 := x4.trans x5
  refine ⟨bb, rfl, fun hb => ?_, fun hb => ⟨⟨k + 1, cs', rfl, by omega, o5, hl4, lt4, B5, x05⟩, by dsimp only; omega⟩⟩
  obtain ⟨p, y, hp, hy, hc⟩ := o5.rd.word k (by omega)
  rw [Nat.mul_one] at hc
  have hym := lt4 y (List.mem_of_getElem? hy)
  refine ⟨by omega, hlt, p, hp, _, by rw [Int.toNat_natCast]; exact hc, ?_⟩
  have et : (y : Int).tmod 1000 = ((y % 1000 : Nat) : Int) := by rw [Int.tmod_eq_emod_of_nonneg (by omega)]; omega
  have ew : IntKind.i64.wrap ((y : Int).tmod 1000) = ((y % 1000 : Nat) : Int) := by rw [et]; exact wrap_i64 (by omega) (by omega)
  rw [ew]
  refine ⟨(ref_spec (h.ext x05) ((y % 1000 : Nat) : Int) (by omega) (by omega) hl).mono ?_⟩
  rintro e w6 ⟨rfl, hv, rfl⟩
  refine ⟨_, rfl, by omega, hlt, p, hp, o5.canAt hp (by omega), fun w7 s7 => ?_⟩
  rw [Int.toNat_natCast] at s7
  obtain ⟨o7, u7⟩ := o5.setAt hp (by omega) s7
  rw [uv_set] at o7
  have hpb := o5.base p hp
  have hpo := own_blk_ne o5 B5 (by decide) p hp
  refine ⟨⟨k + 1, cs'.set k _, rfl, by omega, o7, by rw [List.length_set]; exact hl4, fun y hy => ?_, B5.upd u7 (fun he => hpo he.symm), x05.fresh u7 (by rintro i rfl; exact hpb.1)⟩, by dsimp only; omega⟩
  rcases List.mem_or_eq_of_mem_set hy with hy | rfl
  · exact lt4 y hy
  · exact hv
end
end Go.Proofs.Ytggpomialmpgoaa.V
