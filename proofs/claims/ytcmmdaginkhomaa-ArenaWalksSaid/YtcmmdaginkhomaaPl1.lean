/-
  The player: both arenas and the references; a call's reference, and the calls that copy.
-/
import Derived.Test.YtcmmdaginkhomaaAr23
namespace Go.Proofs.Ytcmmdaginkhomaa.V
open Go Go.RowKit
set_option linter.unusedVariables false
set_option linter.unusedSimpArgs false
set_option maxRecDepth 100000

def pk (c n : Int) : Int := if c < 0 then (-(c + 1)).tmod n else c.tmod n
theorem pk_lt {c n : Int} (hn : 0 < n) : 0 ≤ pk c n ∧ pk c n < n := by
  unfold pk
  split
  · rw [Int.tmod_eq_emod_of_nonneg (by omega)]
    exact ⟨Int.emod_nonneg _ (by omega), Int.emod_lt_of_pos _ hn⟩
  · rw [Int.tmod_eq_emod_of_nonneg (by omega)]
    exact ⟨Int.emod_nonneg _ (by omega), Int.emod_lt_of_pos _ hn⟩
theorem pick_spec (c n : Int) (w : World) (h0 : -9223372036854775808 ≤ c) (h1 : c ≤ 9223372036854775807) (hn : 0 < n) :
    Calls Try.prog 17 #[.int .i64 c, .int .i64 n] w fun e w' => e = .returned (.int .i64 (pk c n)) ∧ w' = w := by
  refine vc_17 _ _ _ _ ?_
  simp only [eq_self, false_or, or_false, true_and, and_true, decide_eq_true_eq, decide_eq_false_iff_not, gd_st, gd_sf, exists_eq_left', exists_eq_left, Option.some.injEq, Sl.eta, Nat.reduceLeDiff, Int.reduceLE, Int.reduceLT, Int.reduceEq, Int.reduceNe, Nat.reduceMul, Nat.reduceAdd, Nat.reduceSub, Int.toNat_natCast, beq_iff_eq, bne_iff_ne, beq_eq_false_iff_ne, bne_eq_false_iff_eq, pick_and, pick_or, Bool.and_eq_true, Bool.or_eq_true, Bool.and_eq_false_iff, Bool.or_eq_false_iff, ne_eq, not_false_eq_true, Bool.not_eq_true', Bool.not_eq_false', reduceCtorEq, Nat.le_refl, Nat.zero_mul, Nat.mul_one, Nat.zero_add, Int.reduceToNat, ones, one, add_mk, Decidable.not_not, cond_true, cond_false, true_implies, false_implies, implies_true, Bool.not_true, Bool.not_false]
  refine ⟨fun h => ⟨by omega, ?_⟩, fun h => ⟨by omega, ?_⟩⟩
  · rw [wrap_i64 (n := c + 1) (by omega) (by omega), wrap_i64 (by omega) (by omega), pk, if_pos h]
    congr 3
    omega
  · rw [pk, if_neg h]
theorem getD_lt {l : List Nat} (h : ∀ x ∈ l, x < 18446744073709551616) (i : Nat) : l.getD i 0 < 18446744073709551616 := by
  rw [List.getD_eq_getElem?_getD]
  cases hh : l[i]? with
  | none => decide
  | some x => exact h x (List.mem_of_getElem? hh)
theorem copyT_lt {A : Ar} (h : A.Ok) (r : Nat) : (copyT A r).2.1 < 18446744073709551616 := by
  have hx := h.nxtIn; have hn := h.n
  have hg := getD_lt h.lt (r - 1)
  unfold copyT
  repeat' split
  all_goals (dsimp only; omega)
theorem makeT_lt {A : Ar} (h : A.Ok) (hd : Hd) (cs : List Nat) : (makeT A hd cs).2.1 < 18446744073709551616 := by
  have hx := h.useIn; have hn := h.n
  unfold makeT
  repeat' split
  all_goals (dsimp only; omega)
/-- the player in memory -/
structure Pl (w0 w : World) (p b1 g1 b2 g2 : Nat) (A1 A2 : Ar) (s : Sl) (rs : List Nat) : Prop where
  a1 : ArW 92 w b1 g1 A1
  a2 : ArW 76 w b2 g2 A2
  hd : Blk w p 78 [.pointer (some ⟨g1, 0, none⟩), .pointer (some ⟨g2, 0, none⟩), .slice s.a s.n s.c]
  ow : Own w w0.heap.size 22 1 s (uv rs)
  lt : ∀ x ∈ rs, x < 18446744073709551616
  ne : b1 ≠ b2
  o : ∀ q, s.a = some q → q.block ≠ b1 ∧ q.block ≠ b2
  lo : w0.heap.size ≤ b1 ∧ w0.heap.size ≤ g1 ∧ w0.heap.size ≤ b2 ∧ w0.heap.size ≤ g2 ∧ w0.heap.size ≤ p
  x : Ext w0 w
section
variable {w0 w w' : World} {p b1 g1 b2 g2 : Nat} {A1 A2 A' : Ar} {s : Sl} {rs : List Nat} {S : Nat → Prop}
theorem Pl.ext (h : Pl w0 w p b1 g1 b2 g2 A1 A2 s rs) (u : Ext w w') : Pl w0 w' p b1 g1 b2 g2 A1 A2 s rs :=
  ⟨h.a1.ext u, h.a2.ext u, h.hd.ext u, h.ow.ext u, h.lt, h.ne, h.o, h.lo, h.x.trans u⟩
theorem Pl.apart (h : Pl w0 w p b1 g1 b2 g2 A1 A2 s rs) : p ≠ b1 ∧ p ≠ g1 ∧ p ≠ b2 ∧ p ≠ g2 ∧ g1 ≠ b1 ∧ g1 ≠ g2 ∧ g1 ≠ b2 ∧ b1 ≠ g2 ∧ b2 ≠ g2 :=
  ⟨h.hd.ne h.a1.ws (by decide), h.hd.ne h.a1.hd (by decide), h.hd.ne h.a2.ws (by decide), h.hd.ne h.a2.hd (by decide), h.a1.hd.ne h.a1.ws (by decide), h.a1.hd.ne h.a2.hd (by decide), h.a1.hd.ne h.a2.ws (by decide), h.a1.ws.ne h.a2.hd (by decide), h.a2.ws.ne h.a2.hd (by decide)⟩
theorem Pl.rsOff (h : Pl w0 w p b1 g1 b2 g2 A1 A2 s rs) : ∀ q, s.a = some q → q.block ≠ b1 ∧ q.block ≠ b2 ∧ q.block ≠ g1 ∧ q.block ≠ g2 ∧ q.block ≠ p := fun q hq =>
  ⟨(h.o q hq).1, (h.o q hq).2, own_blk_ne h.ow h.a1.hd (by decide) q hq, own_blk_ne h.ow h.a2.hd (by decide) q hq, own_blk_ne h.ow h.hd (by decide) q hq⟩
theorem Pl.keep (h : Pl w0 w p b1 g1 b2 g2 A1 A2 s rs) (u : Upd S w w') (h1 : ∀ i, i = b1 ∨ i = g1 ∨ i = b2 ∨ i = g2 ∨ i = p → ¬ S i) (h2 : s.off S) (h3 : ∀ i, S i → w0.heap.size ≤ i) : Pl w0 w' p b1 g1 b2 g2 A1 A2 s rs :=
  ⟨h.a1.upd u (h1 _ (by simp)) (h1 _ (by simp)), h.a2.upd u (h1 _ (by simp)) (h1 _ (by simp)), h.hd.upd u (h1 _ (by simp)), h.ow.upd u h2, h.lt, h.ne, h.o, h.lo, h.x.fresh u h3⟩
theorem Pl.up1 (h : Pl w0 w p b1 g1 b2 g2 A1 A2 s rs) (u : Upd (fun k => k = b1 ∨ k = g1) w w') (a : ArW 92 w' b1 g1 A') : Pl w0 w' p b1 g1 b2 g2 A' A2 s rs := by
  have hn := h.apart; have hne := h.ne; have hl := h.lo
  exact ⟨a, h.a2.upd u (by omega) (by omega), h.hd.upd u (by omega), h.ow.upd u fun q hq => by have := h.rsOff q hq; omega, h.lt, h.ne, h.o, h.lo, h.x.fresh u (by rintro i (rfl | rfl) <;> omega)⟩
theorem Pl.up2 (h : Pl w0 w p b1 g1 b2 g2 A1 A2 s rs) (u : Upd (fun k => k = b2 ∨ k = g2) w w') (a : ArW 76 w' b2 g2 A') : Pl w0 w' p b1 g1 b2 g2 A1 A' s rs := by
  have hn := h.apart; have hne := h.ne; have hl := h.lo
  exact ⟨h.a1.upd u (by omega) (by omega), a, h.hd.upd u (by omega), h.ow.upd u fun q hq => by have := h.rsOff q hq; omega, h.lt, h.ne, h.o, h.lo, h.x.fresh u (by rintro i (rfl | rfl) <;> omega)⟩
/-- the player's blocks -/
def PS (b1 g1 b2 g2 p : Nat) (s : Sl) : Nat → Prop := fun k => k = b1 ∨ k = g1 ∨ k = b2 ∨ k = g2 ∨ k = p ∨ ∃ q, s.a = some q ∧ k = q.block
theorem PS.u1 {w'' : World} (h : Upd (PS b1 g1 b2 g2 p s) w w') (u : Upd (fun k => k = b1 ∨ k = g1) w' w'') : Upd (PS b1 g1 b2 g2 p s) w w'' :=
  h.trans u fun i hi hn => ⟨hn, fun e => hn (e.elim (fun e => .inl e) fun e => .inr (.inl e))⟩
theorem PS.u2 {w'' : World} (h : Upd (PS b1 g1 b2 g2 p s) w w') (u : Upd (fun k => k = b2 ∨ k = g2) w' w'') : Upd (PS b1 g1 b2 g2 p s) w w'' :=
  h.trans u fun i hi hn => ⟨hn, fun e => hn (e.elim (fun e => .inr (.inr (.inl e))) fun e => .inr (.inr (.inr (.inl e))))⟩
theorem PS.x {w'' : World} (h : Upd (PS b1 g1 b2 g2 p s) w w') (u : Ext w' w'') : Upd (PS b1 g1 b2 g2 p s) w w'' := h.trans u fun i hi hn => ⟨hn, not_false⟩
/-- a reference is kept -/
theorem Pl.push (h : Pl w0 w p b1 g1 b2 g2 A1 A2 s rs) {w1 : World} {x : Nat} (hx : x < 18446744073709551616) (hl : rs.length ≤ 2000000000000) (n1 : NewW w (.cells #[.int .u64 (x : Nat)] 22) w1) :
    ∃ s' w2, Runs Try.prog (Builtin.append_ #[37, 37] 37 #[.slice s.a s.n s.c, .slice (some ⟨w.heap.size, 0, none⟩) 1 1]) w1 (.slice s'.a s'.n s'.c) w2 ∧ CanSet w2 (⟨p, 2, none⟩ : Addr) 1 ∧
      ∀ w3, SetW w2 (⟨p, 2, none⟩ : Addr) [.slice s'.a s'.n s'.c] w3 → Pl w0 w3 p b1 g1 b2 g2 A1 A2 s' (rs ++ [x]) ∧ Upd (PS b1 g1 b2 g2 p s) w w3 := by
  have h1 := h.ext n1.ext
  have hn := h.apart; have hlo := h.lo
  have rd : Rd w1 1 ⟨some ⟨w.heap.size, 0, none⟩, 1, 1⟩ (uv [x]) := (Blk.new n1).rd (z := 1) (o := 0) (n := 1) (c := 1) (by simp)
  have hsn := h.ow.rd.lenu
  have hzw := h.a1.ws.lt; have hzw2 := h.a2.ws.lt
  obtain ⟨s', w2, hr, hrn, o2, u2, hcase⟩ := h1.ow.append (t := 37) (ty := 37) tab_ok (by rfl) (by rfl) (by decide) rd (uv_ones _) (by dsimp only; omega) (by dsimp only; omega) h1.x.size
  have off := h1.rsOff
  have nb : ∀ i, (i = b1 ∨ i = b2 ∨ i = g1 ∨ i = g2 ∨ i = p) → ¬ ∃ q, s.a = some q ∧ i = q.block := by
    rintro i hi ⟨q, hq, rfl⟩
    have := off q hq
    omega
  have hd2 := h1.hd.upd u2 (nb _ (by omega))
  have z1 := n1.ext.size
  have hoff' : ∀ q, s'.a = some q → q.block ≠ b1 ∧ q.block ≠ b2 := fun q hq => by
    rcases hcase q hq with h3 | h3
    · exact h.o q h3
    · omega
  have x2 : Ext w0 w2 := h1.x.fresh u2 (by rintro i ⟨q, hq, rfl⟩; exact (h.ow.base q hq).1)
  refine ⟨s', w2, hr, hd2.canSet 2 (by simp), fun w3 s3 => ?_⟩
  have k3 := s3.blk1 hd2
  have u3 : Upd (fun i => i = p) w2 w3 := s3.upd
  have hne' := own_blk_ne o2 hd2 (by decide)
  refine ⟨⟨(h1.a1.upd u2 (nb _ (by omega)) (nb _ (by omega))).upd u3 (by omega) (by omega), (h1.a2.upd u2 (nb _ (by omega)) (nb _ (by omega))).upd u3 (by omega) (by omega), k3, ?_, ?_, h.ne, hoff', h.lo, x2.fresh u3 (by rintro i rfl; omega)⟩, ((n1.ext.toS.trans u2 fun i hi hn => ⟨hn, fun e => hn (.inr (.inr (.inr (.inr (.inr e)))))⟩).trans u3 fun i hi hn => ⟨hn, fun e => hn (.inr (.inr (.inr (.inr (.inl e)))))⟩)⟩
  · rw [uv_append]; exact o2.upd u3 hne'
  · intro y hy
    rcases List.mem_append.1 hy with hy | hy
    · exact h.lt y hy
    · rw [List.mem_singleton.1 hy]; exact hx
end
/-- a call of the script -/
structure OpV where
  k : Int
  h : Hd
  c : Sl
  R : Int
  I : Int
  x : Nat
  z : Bool
structure OpV.Ok (w0 : World) (o : OpV) (cs : List Nat) : Prop where
  k : -9223372036854775808 ≤ o.k ∧ o.k ≤ 9223372036854775807
  R : -9223372036854775808 ≤ o.R ∧ o.R ≤ 9223372036854775807
  I : -9223372036854775808 ≤ o.I ∧ o.I ≤ 9223372036854775807
  x : o.x < 18446744073709551616
  rd : Rd w0 1 o.c (uv cs)
  m : cs.length ≤ 20000000000000
  lt : ∀ y ∈ cs, y < 18446744073709551616
abbrev opL (o : OpV) : List Value := [.int .i64 o.k, .int .i64 o.h.k, .int .i64 o.h.t, .int .i64 o.h.l, .int .u64 (o.h.r : Nat), .slice o.c.a o.c.n o.c.c, .int .i64 o.R, .int .i64 o.I, .int .u64 (o.x : Nat), .bool o.z]
abbrev opV (o : OpV) : Value := .agg #[.int .i64 o.k, .int .i64 o.h.k, .int .i64 o.h.t, .int .i64 o.h.l, .int .u64 (o.h.r : Nat), .slice o.c.a o.c.n o.c.c, .int .i64 o.R, .int .i64 o.I, .int .u64 (o.x : Nat), .bool o.z]
section
variable {w0 w : World} {p b1 g1 b2 g2 : Nat} {A : Ar} {s : Sl} {rs : List Nat} {o : OpV} {cs : List Nat}
theorem ref_spec (h : Pl w0 w p b1 g1 b2 g2 A A s rs) (ok : o.Ok w0 cs) (hl : rs.length ≤ 2000000000000) :
    Calls Try.prog 47 #[.pointer (some ⟨p, 0, none⟩), opV o] w fun e w' => ∃ x : Nat, e = .returned (.int .u64 (x : Nat)) ∧ x < 18446744073709551616 ∧ Ext w w' := by
  refine vc_47 _ _ _ _ _ _ _ _ _ _ _ _ _ ?_
  have hsn := h.ow.rd.lenu
  simp only [eq_self, false_or, or_false, true_and, and_true, decide_eq_true_eq, decide_eq_false_iff_not, gd_st, gd_sf, exists_eq_left', exists_eq_left, Option.some.injEq, Sl.eta, Nat.reduceLeDiff, Int.reduceLE, Int.reduceLT, Int.reduceEq, Int.reduceNe, Nat.reduceMul, Nat.reduceAdd, Nat.reduceSub, Int.toNat_natCast, beq_iff_eq, bne_iff_ne, beq_eq_false_iff_ne, bne_eq_false_iff_eq, pick_and, pick_or, Bool.and_eq_true, Bool.or_eq_true, Bool.and_eq_false_iff, Bool.or_eq_false_iff, ne_eq, not_false_eq_true, Bool.not_eq_true', Bool.not_eq_false', reduceCtorEq, Nat.le_refl, Nat.zero_mul, Nat.mul_one, Nat.zero_add, Int.reduceToNat, ones, one, add_mk, Decidable.not_not, cond_true, cond_false, true_implies, false_implies, implies_true, Bool.not_true, Bool.not_false]
  intro w1 n1 w2 q2
  have k2 : Blk w2 w.heap.size 72 (opL o) := (Blk.new n1).ext q2.ext
  have x2 := n1.ext.trans q2.ext
  have h2 := h.ext x2
  have el : IntKind.i64.wrap ((s.n : Int) + 2) = (s.n : Int) + 2 := wrap_i64 (by omega) (by omega)
  refine ⟨fun _ => False, _, fun w' u => (k2.ext u).cell 6, s, fun w' u => (h2.hd.ext u).cell 2, ?_⟩
  rw [el]
  refine ⟨(pick_spec o.R ((s.n : Int) + 2) w2 ok.R.1 ok.R.2 (by omega)).mono ?_⟩
  rintro e w3 ⟨rfl, rfl⟩
  have hp := pk_lt (c := o.R) (n := (s.n : Int) + 2) (by omega)
  refine ⟨_, rfl, s, h2.hd.cell 2, fun hlt => ?_, fun hge => ⟨s, h2.hd.cell 2, fun _ => ⟨0, rfl, by decide, x2⟩, fun _ => ⟨_, k2.cell 8, o.x, rfl, ok.x, x2⟩⟩⟩
  obtain ⟨q, x, hq, hx, hc⟩ := h2.ow.rd.word (pk o.R ((s.n : Int) + 2)).toNat (by omega)
  rw [Nat.mul_one] at hc
  exact ⟨s, h2.hd.cell 2, hp.1, hlt, q, hq, _, hc, x, rfl, h.lt x (List.mem_of_getElem? hx), x2⟩
/-- what a step leaves -/
def Stp (w0 w : World) (p b1 g1 b2 g2 : Nat) (s0 : Sl) (N : Nat) (w' : World) : Prop := ∃ A s rs, Pl w0 w' p b1 g1 b2 g2 A A s rs ∧ rs.length ≤ N ∧ Upd (PS b1 g1 b2 g2 p s0) w w'
theorem copies_spec (h : Pl w0 w p b1 g1 b2 g2 A A s rs) (ok : o.Ok w0 cs) (hl : rs.length ≤ 2000000000000) (kind : Int) :
    Calls Try.prog 45 #[.pointer (some ⟨p, 0, none⟩), opV o, .int .i64 kind] w fun e w' => e = .returned (.bool true) ∧ Stp w0 w p b1 g1 b2 g2 s (rs.length + 1) w' := by
  refine vc_45 _ _ _ _ _ _ _ _ _ _ _ _ _ _ ?_
  have hap := h.apart; have hne := h.ne
  simp only [eq_self, false_or, or_false, true_and, and_true, decide_eq_true_eq, decide_eq_false_iff_not, gd_st, gd_sf, exists_eq_left', exists_eq_left, Option.some.injEq, Sl.eta, Nat.reduceLeDiff, Int.reduceLE, Int.reduceLT, Int.reduceEq, Int.reduceNe, Nat.reduceMul, Nat.reduceAdd, Nat.reduceSub, Int.toNat_natCast, beq_iff_eq, bne_iff_ne, beq_eq_false_iff_ne, bne_eq_false_iff_eq, pick_and, pick_or, Bool.and_eq_true, Bool.or_eq_true, Bool.and_eq_false_iff, Bool.or_eq_false_iff, ne_eq, not_false_eq_true, Bool.not_eq_true', Bool.not_eq_false', reduceCtorEq, Nat.le_refl, Nat.zero_mul, Nat.mul_one, Nat.zero_add, Int.reduceToNat, ones, one, add_mk, Decidable.not_not, cond_true, cond_false, true_implies, false_implies, implies_true, Bool.not_true, Bool.not_false]
  intro w1 n1
  have k1 : Blk w1 w.heap.size 72 (opL o) := Blk.new n1
  have h1 := h.ext n1.ext
  have U1 : Upd (PS b1 g1 b2 g2 p s) w w1 := n1.ext.toS
  have same : ∀ {w' : World}, Pl w0 w' p b1 g1 b2 g2 A A s rs → Upd (PS b1 g1 b2 g2 p s) w w' → Stp w0 w p b1 g1 b2 g2 s (rs.length + 1) w' := fun h u => ⟨_, _, _, h, Nat.le_succ _, u⟩
  refine ⟨fun _ w2 q2 => ?_, fun _ => ⟨fun _ => ?_, fun _ => ⟨fun _ => ?_, fun _ w2 q2 => ?_⟩⟩⟩
  · have h2 := h1.ext q2.ext
    refine ⟨fun k => k = g1, _, fun w' u => (h2.hd.upd u (by omega)).cell 0, _, fun w' u => (h2.hd.upd u (by omega)).cell 1, ⟨(open_spec h2.a1).mono ?_⟩⟩
    rintro e w3 ⟨rfl, a3, u3⟩
    have h3 := h2.up1 (u3.mono fun i _ hn e => hn (.inr e)) a3
    refine ⟨_, rfl, u3, ⟨(begin_spec h3.a2).mono ?_⟩⟩
    rintro e w4 ⟨rfl, a4, u4⟩
    have h4 := h3.up2 (u4.mono fun i _ hn e => hn (.inr e)) a4
    exact ⟨_, rfl, rb (by simp), _, _, _, h4, Nat.le_succ _, PS.u2 (PS.u1 (PS.x U1 q2.ext) (u3.mono fun i _ hn e => hn (.inr e))) (u4.mono fun i _ hn e => hn (.inr e))⟩
  · refine ⟨_, _, _, _, _, o.c, _, _, _, _, rfl, ⟨k1.cell 0, k1.cell 1, k1.cell 2, k1.cell 3, k1.cell 4, k1.cell 5, k1.cell 6, k1.cell 7, k1.cell 8, k1.cell 9⟩, ⟨(ref_spec h1 ok hl).mono ?_⟩⟩
    rintro e w2 ⟨r, rfl, hr, x2⟩
    have h2 := h1.ext x2
    refine ⟨_, rfl, _, h2.hd.cell 0, ⟨(copy_spec h2.a1 hr).mono ?_⟩⟩
    rintro e w3 ⟨rfl, a3, u3⟩
    have h3 := h2.up1 u3 a3
    refine ⟨_, _, rfl, _, h3.hd.cell 1, ⟨(rcopy_spec h3.a2 hr).mono ?_⟩⟩
    rintro e w4 ⟨rfl, a4, u4⟩
    have h4 := h3.up2 u4 a4
    have hlt := copyT_lt h.a1.ok r
    refine ⟨_, _, rfl, fun _ => ⟨s, h4.hd.cell 2, fun w5 n5 => ?_⟩, fun _ => ⟨fun _ => ⟨rb (by simp), _, _, _, h4, Nat.le_succ _, PS.u2 (PS.u1 (PS.x U1 x2) u3) u4⟩, fun h => absurd rfl h⟩⟩
    obtain ⟨s', w6, hr6, can6, h6⟩ := h4.push hlt hl n5
    exact ⟨s', w6, hr6, can6, fun w7 s7 => ⟨fun _ => ⟨rb (by simp), _, _, _, (h6 w7 s7).1, by simp, (PS.u2 (PS.u1 (PS.x U1 x2) u3) u4).same (h6 w7 s7).2⟩, fun h => absurd rfl h⟩⟩
  · refine ⟨_, _, _, _, _, o.c, _, _, _, _, rfl, ⟨k1.cell 0, k1.cell 1, k1.cell 2, k1.cell 3, k1.cell 4, k1.cell 5, k1.cell 6, k1.cell 7, k1.cell 8, k1.cell 9⟩, ⟨(ref_spec h1 ok hl).mono ?_⟩⟩
    rintro e w2 ⟨r, rfl, hr, x2⟩
    have h2 := h1.ext x2
    refine ⟨_, rfl, _, h2.hd.cell 0, ⟨(after_spec h2.a1 hr).mono ?_⟩⟩
    rintro e w3 ⟨rfl, x3⟩
    have h3 := h2.ext x3
    refine ⟨_, _, rfl, _, h3.hd.cell 1, ⟨(rafter_spec h3.a2 hr).mono ?_⟩⟩
    rintro e w4 ⟨rfl, x4⟩
    exact ⟨_, _, rfl, fun _ => ⟨rb (by simp), same (h3.ext x4) (PS.x (PS.x (PS.x U1 x2) x3) x4)⟩, fun h => absurd rfl h⟩
  · have h2 := h1.ext q2.ext
    have hwl := h.x.size
    have k2 := k1.ext q2.ext
    have hb1 := h.a1.ws.lt; have hg1 := h.a1.hd.lt
    refine ⟨fun k => k = b1 ∨ k = g1, _, fun w' u => (h2.hd.upd u (by omega)).cell 0, _, fun w' u => (k2.upd u (by omega)).cell 9, _, fun w' u => (h2.hd.upd u (by omega)).cell 1, _, fun w' u => (k2.upd u (by omega)).cell 9, ⟨(close_spec h2.a1 o.z).mono ?_⟩⟩
    rintro e w3 ⟨rfl, a3, u3⟩
    have h3 := h2.up1 u3 a3
    refine ⟨_, rfl, u3, ⟨(end_spec h3.a2 o.z).mono ?_⟩⟩
    rintro e w4 ⟨rfl, a4, u4⟩
    have h4 := h3.up2 u4 a4
    exact ⟨_, rfl, rb (by simp), _, _, _, h4, Nat.le_succ _, PS.u2 (PS.u1 (PS.x U1 q2.ext) u3) u4⟩
end
end Go.Proofs.Ytcmmdaginkhomaa.V
