/-
  A call of the script, by both; ArenaPlays.
-/
import Derived.Test.YtcmmdaginkhomaaPl3
import Derived.Test.YtcmmdaginkhomaaVcD
import Derived.Test.YtcmmdaginkhomaaRow
namespace Go.Proofs.Ytcmmdaginkhomaa.V
open Go Go.RowKit
set_option linter.unusedVariables false
set_option linter.unusedSimpArgs false
set_option maxRecDepth 100000

section
variable {w0 w : World} {p b1 g1 b2 g2 : Nat} {A : Ar} {s : Sl} {rs : List Nat} {o : OpV} {cs : List Nat}
theorem step_spec (h : Pl w0 w p b1 g1 b2 g2 A A s rs) (ok : o.Ok w0 cs) (hl : rs.length ≤ 2000000000000) :
    Calls Try.prog 35 #[.pointer (some ⟨p, 0, none⟩), opV o] w fun e w' => e = .returned (.bool true) ∧ Stp w0 w p b1 g1 b2 g2 s (rs.length + 1) w' := by
  refine vc_35 _ _ _ _ _ _ _ _ _ _ _ _ _ ?_
  have hap := h.apart; have hne := h.ne; have hlo := h.lo
  have hb1 := h.a1.ws.lt; have hg1 := h.a1.hd.lt; have hb2 := h.a2.ws.lt; have hg2 := h.a2.hd.lt; have hp := h.hd.lt
  have hn := h.a1.ok.n; have hi := h.a1.ok.useIn; have hu := h.a1.ok.use1
  simp only [eq_self, false_or, or_false, true_and, and_true, decide_eq_true_eq, decide_eq_false_iff_not, gd_st, gd_sf, exists_eq_left', exists_eq_left, Option.some.injEq, Sl.eta, Nat.reduceLeDiff, Int.reduceLE, Int.reduceLT, Int.reduceEq, Int.reduceNe, Nat.reduceMul, Nat.reduceAdd, Nat.reduceSub, Int.toNat_natCast, beq_iff_eq, bne_iff_ne, beq_eq_false_iff_ne, bne_eq_false_iff_eq, pick_and, pick_or, Bool.and_eq_true, Bool.or_eq_true, Bool.and_eq_false_iff, Bool.or_eq_false_iff, ne_eq, not_false_eq_true, Bool.not_eq_true', Bool.not_eq_false', reduceCtorEq, Nat.le_refl, Nat.zero_mul, Nat.mul_one, Nat.zero_add, Int.reduceToNat, ones, one, add_mk, Decidable.not_not, cond_true, cond_false, true_implies, false_implies, implies_true, Bool.not_true, Bool.not_false]
  intro w1 n1
  have k1 : Blk w1 w.heap.size 72 (opL o) := Blk.new n1
  have h1 := h.ext n1.ext
  have U1 : Upd (PS b1 g1 b2 g2 p s) w w1 := n1.ext.toS
  have up1 : ∀ {w' : World}, Stp w0 w1 p b1 g1 b2 g2 s (rs.length + 1) w' → Stp w0 w p b1 g1 b2 g2 s (rs.length + 1) w' := fun ⟨A, s', rs', h, hl, u⟩ => ⟨A, s', rs', h, hl, U1.same u⟩
  refine ⟨_, k1.cell 0, ⟨(pick_spec o.k 16 w1 ok.k.1 ok.k.2 (by decide)).mono ?_⟩⟩
  rintro e w2 ⟨rfl, rfl⟩
  have same : ∀ {w' : World}, Pl w0 w' p b1 g1 b2 g2 A A s rs → Upd (PS b1 g1 b2 g2 p s) w w' → Stp w0 w p b1 g1 b2 g2 s (rs.length + 1) w' := fun h u => ⟨_, _, _, h, Nat.le_succ _, u⟩
  have mk := (makes_spec h1 ok hl).mono (R' := fun e w' => ∃ b, e = .returned (.bool b) ∧ Ending.returned (.bool b) = .returned (.bool true) ∧ Stp w0 w p b1 g1 b2 g2 s (rs.length + 1) w') (by rintro e w3 ⟨rfl, st⟩; exact ⟨_, rfl, rfl, up1 st⟩)
  have wk := (walks_spec h1).mono (R' := fun e w' => ∃ b, e = .returned (.bool b) ∧ Ending.returned (.bool b) = .returned (.bool true) ∧ Stp w0 w p b1 g1 b2 g2 s (rs.length + 1) w') (by rintro e w3 ⟨rfl, st, xx⟩; exact ⟨_, rfl, rfl, same st (PS.x U1 xx)⟩)
  have cp := (copies_spec h1 ok hl (pk o.k 16)).mono (R' := fun e w' => ∃ b, e = .returned (.bool b) ∧ Ending.returned (.bool b) = .returned (.bool true) ∧ Stp w0 w p b1 g1 b2 g2 s (rs.length + 1) w') (by rintro e w3 ⟨rfl, st⟩; exact ⟨_, rfl, rfl, up1 st⟩)
  refine ⟨_, rfl, fun w' => Blk w' w.heap.size 72 (opL o) ∧ Pl w0 w' p b1 g1 b2 g2 A A s rs ∧ Upd (PS b1 g1 b2 g2 p s) w w', ⟨fun _ => ⟨_, _, _, _, _, o.c, _, _, _, _, rfl, ⟨k1.cell 0, k1.cell 1, k1.cell 2, k1.cell 3, k1.cell 4, k1.cell 5, k1.cell 6, k1.cell 7, k1.cell 8, k1.cell 9⟩, ⟨mk⟩⟩, fun _ => ⟨fun _ => ⟨fun _ => ⟨_, _, _, _, _, o.c, _, _, _, _, rfl, ⟨k1.cell 0, k1.cell 1, k1.cell 2, k1.cell 3, k1.cell 4, k1.cell 5, k1.cell 6, k1.cell 7, k1.cell 8, k1.cell 9⟩, ⟨cp⟩⟩, fun _ => ⟨fun _ => ⟨wk⟩, fun _ => ⟨k1, h1, U1⟩⟩⟩, fun _ => ⟨fun _ => ⟨wk⟩, fun _ => ⟨k1, h1, U1⟩⟩⟩⟩, ?_⟩
  rintro _ w3 ⟨k3, h3, U3⟩
  refine ⟨_, _, _, _, _, o.c, _, _, _, _, rfl, ⟨k3.cell 0, k3.cell 1, k3.cell 2, k3.cell 3, k3.cell 4, k3.cell 5, k3.cell 6, k3.cell 7, k3.cell 8, k3.cell 9⟩, ⟨(ref_spec h3 ok hl).mono ?_⟩⟩
  rintro e w4 ⟨r, rfl, hr, x4⟩
  have h4 := h3.ext x4
  have U4 := PS.x U3 x4
  have k4 := k3.ext x4
  refine ⟨_, rfl, fun _ => ⟨_, h4.hd.cell 0, ⟨(header_spec h4.a1 hr).mono ?_⟩⟩, fun _ => ⟨fun _ w5 q5 => ?_, fun _ => ⟨fun _ w5 q5 => ?_, fun _ => ⟨fun _ w5 q5 => ?_, fun _ => ⟨fun _ w5 q5 => ?_, fun _ => ⟨fun _ => ⟨_, h4.hd.cell 0, ⟨(check_spec h4.a1).mono ?_⟩⟩, fun _ w5 q5 => ?_⟩⟩⟩⟩⟩⟩
  · rintro e w5 ⟨rfl, x5⟩
    have h5 := h4.ext x5
    refine ⟨_, _, _, _, _, rfl, fun w6 n6 => ⟨rfl, HB.can n6, fun w7 s7 => ?_⟩⟩
    obtain ⟨b7, y7⟩ := HB.made n6 s7
    have h7 := h5.ext y7
    refine ⟨_, h7.hd.cell 1, ⟨(rheader_spec h7.a2 hr).mono ?_⟩⟩
    rintro e w8 ⟨rfl, x8⟩
    refine ⟨_, _, _, _, _, rfl, fun w9 n9 => ⟨rfl, HB.can n9, fun w10 s10 => ?_⟩⟩
    obtain ⟨b10, y10⟩ := HB.made n9 s10
    have b7' := b7.ext (x8.trans y10)
    refine ⟨_, _, _, _, rfl, ⟨b7'.cell 0, b7'.cell 1, b7'.cell 2, b7'.cell 3⟩, _, _, _, _, rfl, ⟨b10.cell 0, b10.cell 1, b10.cell 2, b10.cell 3⟩, fun _ => ⟨rb (by simp), same (h7.ext (x8.trans y10)) (PS.x (PS.x (PS.x U4 x5) y7) (x8.trans y10))⟩, fun hh => ?_⟩
    rcases hh with ((hh | hh) | hh) | hh <;> exact absurd rfl hh
  · have h5 := h4.ext q5.ext
    have k5 := k4.ext q5.ext
    refine ⟨fun _ => False, _, fun w' u => (h5.hd.ext u).cell 0, _, fun w' u => (k5.ext u).cell 7, ⟨(Cell_spec h5.a1 hr ok.I.2).mono ?_⟩⟩
    rintro e w6 ⟨rfl, x6⟩
    refine ⟨_, _, rfl, fun w7 q7 => ?_⟩
    have h7 := (h5.ext x6).ext q7.ext
    have k7 := (k5.ext x6).ext q7.ext
    refine ⟨fun _ => False, _, fun w' u => (h7.hd.ext u).cell 1, _, fun w' u => (k7.ext u).cell 7, ⟨(rCell_spec h7.a2 hr ok.I.2).mono ?_⟩⟩
    rintro e w8 ⟨rfl, x8⟩
    exact ⟨_, _, rfl, fun _ => ⟨rb (by simp), same (h7.ext x8) (PS.x (PS.x (PS.x (PS.x U4 q5.ext) x6) q7.ext) x8)⟩, fun h => absurd rfl h⟩
  · have h5 := h4.ext q5.ext
    have k5 := k4.ext q5.ext
    refine ⟨fun k => k = b1, _, fun w' u => (h5.hd.upd u (by omega)).cell 0, _, fun w' u => (k5.upd u (by omega)).cell 7, _, fun w' u => (k5.upd u (by omega)).cell 8, _, fun w' u => (h5.hd.upd u (by omega)).cell 1, _, fun w' u => (k5.upd u (by omega)).cell 7, _, fun w' u => (k5.upd u (by omega)).cell 8, ⟨(SetCell_spec h5.a1 hr ok.I.2 ok.x).mono ?_⟩⟩
    rintro e w6 ⟨rfl, a6, u6⟩
    have h6 := h5.up1 (u6.mono fun i _ hn e => hn (.inl e)) a6
    refine ⟨_, rfl, u6, ⟨(rSetCell_spec h6.a2 hr ok.I.2 ok.x).mono ?_⟩⟩
    rintro e w7 ⟨rfl, a7, u7⟩
    have h7 := h6.up2 (u7.mono fun i _ hn e => hn (.inl e)) a7
    exact ⟨_, rfl, rb (by simp), _, _, _, h7, Nat.le_succ _, PS.u2 (PS.u1 (PS.x U4 q5.ext) (u6.mono fun i _ hn e => hn (.inl e))) (u7.mono fun i _ hn e => hn (.inl e))⟩
  · have h5 := h4.ext q5.ext
    have k5 := k4.ext q5.ext
    refine ⟨fun _ => False, _, fun w' u => (h5.hd.ext u).cell 0, _, fun w' u => (k5.ext u).cell 7, ⟨(word_spec h5.a1 _).mono ?_⟩⟩
    rintro e w6 ⟨rfl, rfl⟩
    refine ⟨_, _, rfl, fun w7 q7 => ?_⟩
    have h7 := h5.ext q7.ext
    have k7 := k5.ext q7.ext
    refine ⟨fun _ => False, _, fun w' u => (h7.hd.ext u).cell 1, _, fun w' u => (k7.ext u).cell 7, ⟨(rword_spec h7.a2 _).mono ?_⟩⟩
    rintro e w8 ⟨rfl, rfl⟩
    exact ⟨_, _, rfl, fun _ => ⟨rb (by simp), same h7 (PS.x (PS.x U4 q5.ext) q7.ext)⟩, fun h => absurd rfl h⟩
  · have h5 := h4.ext q5.ext
    have k5 := k4.ext q5.ext
    refine ⟨fun k => k = b1, _, fun w' u => (h5.hd.upd u (by omega)).cell 0, _, fun w' u => (k5.upd u (by omega)).cell 7, _, fun w' u => (k5.upd u (by omega)).cell 8, _, fun w' u => (h5.hd.upd u (by omega)).cell 1, _, fun w' u => (k5.upd u (by omega)).cell 7, _, fun w' u => (k5.upd u (by omega)).cell 8, ⟨(setWord_spec h5.a1 _ ok.x).mono ?_⟩⟩
    rintro e w6 ⟨rfl, a6, u6⟩
    have h6 := h5.up1 (u6.mono fun i _ hn e => hn (.inl e)) a6
    refine ⟨_, rfl, u6, ⟨(rsetWord_spec h6.a2 _ ok.x).mono ?_⟩⟩
    rintro e w7 ⟨rfl, a7, u7⟩
    have h7 := h6.up2 (u7.mono fun i _ hn e => hn (.inl e)) a7
    exact ⟨_, rfl, rb (by simp), _, _, _, h7, Nat.le_succ _, PS.u2 (PS.u1 (PS.x U4 q5.ext) (u6.mono fun i _ hn e => hn (.inl e))) (u7.mono fun i _ hn e => hn (.inl e))⟩
  · rintro e w5 ⟨rfl, x5⟩
    have h5 := h4.ext x5
    refine ⟨_, _, rfl, _, h5.hd.cell 1, ⟨(rcheck_spec h5.a2).mono ?_⟩⟩
    rintro e w6 ⟨rfl, x6⟩
    exact ⟨_, _, rfl, fun _ => ⟨rb (by simp), same (h5.ext x6) (PS.x (PS.x U4 x5) x6)⟩, fun h => absurd rfl h⟩
  · have h5 := h4.ext q5.ext
    refine ⟨fun _ => False, _, fun w' u => (h5.hd.ext u).cell 0, _, fun w' u => (h5.hd.ext u).cell 1, ⟨(used_spec h5.a1).mono ?_⟩⟩
    rintro e w6 ⟨rfl, q6⟩
    have h6 := h5.ext q6.ext
    refine ⟨_, rfl, q6.ext, ⟨(rused_spec h6.a2).mono ?_⟩⟩
    rintro e w7 ⟨rfl, q7⟩
    have h7 := h6.ext q7.ext
    refine ⟨_, rfl, fun _ => ⟨_, fun w' u => (h7.hd.ext u).cell 0, _, fun w' u => (h7.hd.ext u).cell 1, _, rfl, _, fun w' u => (h7.a2.hd.ext u).cell 0, _, fun w' u => (h7.hd.ext u).cell 1, ⟨(left_spec h7.a1).mono ?_⟩⟩, fun h => absurd rfl h⟩
    rintro e w8 ⟨rfl, q8⟩
    have h8 := h7.ext q8.ext
    refine ⟨_, rfl, q8.ext, ⟨(rused_spec h8.a2).mono ?_⟩⟩
    rintro e w9 ⟨rfl, q9⟩
    have h9 := h8.ext q9.ext
    have ew : ((A.n - (A.use.e - A.use.f) : Nat) : Int) = IntKind.i64.wrap ((A.n : Int) - ((A.use.e - A.use.f : Nat) : Int)) := by rw [wrap_i64 (by omega) (by omega)]; omega
    refine ⟨_, rfl, q9.ext, fun _ => ⟨_, fun w' u => (h9.hd.ext u).cell 0, _, fun w' u => (h9.hd.ext u).cell 1, _, rfl, _, fun w' u => (h9.a2.hd.ext u).cell 0, ⟨(words_spec h9.a1).mono ?_⟩⟩, fun hne => absurd ew hne⟩
    rintro e w10 ⟨rfl, rfl⟩
    exact ⟨_, rfl, Ext.refl _, rb (by simp), same h9 (PS.x (PS.x (PS.x (PS.x (PS.x U4 q5.ext) q6.ext) q7.ext) q8.ext) q9.ext)⟩
end
end Go.Proofs.Ytcmmdaginkhomaa.V
