/-
  The document's answer: digits, numbers, cells, rows, objects, Seen.
-/
import Derived.Test.YtepmokkhcombmaaDoorSv6
namespace Go.Proofs.YtepmokkhcombmaaDoor.V
open Go Go.RowKit
set_option linter.unusedVariables false
set_option linter.unusedSimpArgs false
set_option linter.unusedSectionVars false
set_option maxRecDepth 100000

theorem wrap_u8 {n : Int} (h0 : 0 ≤ n) (h1 : n ≤ 255) : IntKind.u8.wrap n = n := by
  unfold IntKind.wrap; simp [IntKind.signed, IntKind.bits]; omega
theorem own_byte {w w1 : World} {x : Int} {e : Nat} (h : NewW w (.cells #[.int .u8 x] e) w1) : Rd w1 1 ⟨some ⟨w.heap.size, 0, none⟩, 1, 1⟩ [.int .u8 x] := (Blk.new h).rd (by simp)
theorem tv_one (m : Nat) : tv [UInt8.ofNat (48 + m % 10)] = [.int .u8 ((48 + m % 10 : Nat) : Int)] := by
  unfold tv Lib.byteCells
  simp
  omega
section
variable {w w' : World}
theorem one_digit {w w1 : World} {m : Nat} {x : Int} (hx : x = ((48 + m % 10 : Nat) : Int)) (h : NewW w (.cells #[.int .u8 x] 5) w1) :
    Runs Tryd.prog (convert 59 9 (.slice (some ⟨w.heap.size, 0, none⟩) 1 1)) w1 (.string (mkB [UInt8.ofNat (48 + m % 10)])) w1 := by
  subst hx
  have h1 : Rd w1 1 ⟨some ⟨w.heap.size, 0, none⟩, 1, 1⟩ (tv [UInt8.ofNat (48 + m % 10)]) := by rw [tv_one]; exact own_byte h
  exact h1.str
theorem dig_wrap (m : Nat) : IntKind.u8.wrap (IntKind.u64.wrap (48 + ((m : Nat) : Int).tmod 10)) = ((48 + m % 10 : Nat) : Int) := by
  rw [Int.tmod_eq_emod_of_nonneg (by omega), wrap_u64 (by omega) (by omega), wrap_u8 (by omega) (by omega)]
  omega
theorem plain_spec {u : Nat} (hu : u < 18446744073709551616) :
    Calls Tryd.prog 21 #[.int .u64 (u : Nat)] w fun e w' => e = .returned (.string (mkB (Lib.decDigits u))) ∧ Ext w w' := by
  refine vc_21 _ _ _ ?_
  simp only [eq_self, false_or, or_false, true_and, and_true, decide_eq_true_eq, decide_eq_false_iff_not, gd_st, gd_sf, exists_eq_left', exists_eq_left, Option.some.injEq, Sl.eta, Nat.reduceLeDiff, Int.reduceLE, Int.reduceLT, Int.reduceEq, Int.reduceNe, Nat.reduceMul, Nat.reduceAdd, Nat.reduceSub, Int.toNat_natCast, beq_iff_eq, bne_iff_ne, beq_eq_false_iff_ne, bne_eq_false_iff_eq, pick_and, pick_or, Bool.and_eq_true, Bool.or_eq_true, Bool.and_eq_false_iff, Bool.or_eq_false_iff, ne_eq, not_false_eq_true, Bool.not_eq_true', Bool.not_eq_false', reduceCtorEq, Nat.le_refl, Nat.zero_mul, Nat.mul_one, Nat.zero_add, Int.reduceToNat, ones, one, add_mk, Decidable.not_not, cond_true, cond_false, true_implies, false_implies, implies_true, Bool.not_true, Bool.not_false]
  have hlen := dd_len u 19 (by omega)
  rw [dig_wrap]
  intro w1 n1
  have dv : ∀ m : Nat, m < 18446744073709551616 → IntKind.u64.wrap (((m : Nat) : Int).tdiv 10) = ((m / 10 : Nat) : Int) := fun m hm => by
    rw [Int.tdiv_eq_ediv_of_nonneg (by omega), wrap_u64 (by omega) (by omega)]; omega
  refine ⟨_, w1, one_digit rfl n1, fun n b w' => ∃ (m : Nat) (l : List UInt8), n = (m : Nat) ∧ m ≤ u ∧ b = mkB l ∧ (if m = 0 then l else Lib.decDigits m ++ l) = Lib.decDigits u ∧ Ext w w', fun n _ _ => n.toNat, ⟨u / 10, [UInt8.ofNat (48 + u % 10)], dv u hu, by omega, rfl, ?_, n1.ext⟩, ?_⟩
  · by_cases h : u < 10
    · rw [if_pos (by omega), dd_small h, Nat.mod_eq_of_lt h]
    · rw [if_neg (by omega), ← dd_big h]
  rintro _ n b w2 ⟨m, l, rfl, hm, rfl, hd, x2⟩
  rw [dig_wrap, dv m (by omega)]
  refine ⟨fun hpos w3 n3 => ?_, fun hz => ?_⟩
  · have hm0 : m ≠ 0 := by omega
    rw [if_neg hm0] at hd
    have hl : l.length ≤ 20 := by rw [← hd, List.length_append] at hlen; omega
    refine ⟨_, w3, one_digit rfl n3, by rw [mkB_size, mkB_size]; simp; omega, ⟨m / 10, UInt8.ofNat (48 + m % 10) :: l, rfl, by omega, mkB_append _ _, ?_, x2.trans n3.ext⟩, by dsimp only; omega⟩
    by_cases h : m < 10
    · rw [if_pos (by omega), ← hd, dd_small h, Nat.mod_eq_of_lt h]; rfl
    · rw [if_neg (by omega), ← hd, dd_big h, List.append_assoc]; rfl
  · have : m = 0 := by omega
    subst this
    rw [if_pos rfl] at hd
    rw [hd]
    exact ⟨rfl, x2⟩
theorem digits_spec {n : Int} (h0 : -9223372036854775808 ≤ n) (h1 : n ≤ 9223372036854775807) :
    Calls Tryd.prog 13 #[.int .i64 n] w fun e w' => e = .returned (.string (mkB (Lib.itoa n))) ∧ Ext w w' := by
  refine vc_13 _ _ _ ?_
  simp only [eq_self, false_or, or_false, true_and, and_true, decide_eq_true_eq, decide_eq_false_iff_not, gd_st, gd_sf, exists_eq_left', exists_eq_left, Option.some.injEq, Sl.eta, Nat.reduceLeDiff, Int.reduceLE, Int.reduceLT, Int.reduceEq, Int.reduceNe, Nat.reduceMul, Nat.reduceAdd, Nat.reduceSub, Int.toNat_natCast, beq_iff_eq, bne_iff_ne, beq_eq_false_iff_ne, bne_eq_false_iff_eq, pick_and, pick_or, Bool.and_eq_true, Bool.or_eq_true, Bool.and_eq_false_iff, Bool.or_eq_false_iff, ne_eq, not_false_eq_true, Bool.not_eq_true', Bool.not_eq_false', reduceCtorEq, Nat.le_refl, Nat.zero_mul, Nat.mul_one, Nat.zero_add, Int.reduceToNat, ones, one, add_mk, Decidable.not_not, cond_true, cond_false, true_implies, false_implies, implies_true, Bool.not_true, Bool.not_false]
  refine ⟨fun hn => ?_, fun hn => ?_⟩
  · have e : IntKind.u64.wrap (IntKind.u64.wrap (IntKind.i64.wrap (0 - IntKind.i64.wrap (n + 1))) + 1) = ((n.natAbs : Nat) : Int) := by
      have a1 : IntKind.i64.wrap (n + 1) = n + 1 := wrap_i64 (by omega) (by omega)
      have a2 : IntKind.i64.wrap (0 - (n + 1)) = 0 - (n + 1) := wrap_i64 (by omega) (by omega)
      have a3 : IntKind.u64.wrap (0 - (n + 1)) = 0 - (n + 1) := wrap_u64 (by omega) (by omega)
      rw [a1, a2, a3, wrap_u64 (by omega) (by omega)]; omega
    rw [e]
    refine ⟨(plain_spec (u := n.natAbs) (by omega)).mono ?_⟩
    rintro e w1 ⟨rfl, x1⟩
    have hlen := dd_len n.natAbs 19 (by omega)
    have ez : (⟨#[45]⟩ : ByteArray) = mkB [45] := rfl
    refine ⟨_, rfl, by rw [ez, mkB_size, mkB_size]; simp; omega, ?_, x1⟩
    rw [ez, mkB_append]
    unfold Lib.itoa
    rw [if_pos hn]; rfl
  · have e : IntKind.u64.wrap n = ((n.toNat : Nat) : Int) := by rw [wrap_u64 (by omega) (by omega)]; omega
    rw [e]
    refine ⟨(plain_spec (u := n.toNat) (by omega)).mono ?_⟩
    rintro e w1 ⟨rfl, x1⟩
    refine ⟨_, rfl, ?_, x1⟩
    unfold Lib.itoa
    rw [if_neg hn]
end
/-! ### numbers that were given, in memory -/
structure MP (w : World) (B g : Nat) (ls : Sl) (m : List Nat) : Prop where
  hg : Blk w g 58 [.slice ls.a ls.n ls.c, .slice none 0 0]
  hm : Own w B 28 1 ls (uv m)
  lo : B ≤ g
  gd : Gd m
def MS (w : World) (B g : Nat) (m : List Nat) : Prop := ∃ ls, MP w B g ls m
def Kn (w w' : World) : Prop := ∀ (k T : Nat) (cs : List Value), Blk w k T cs → T ≠ 28 → T ≠ 58 → Blk w' k T cs
structure FN (B : Nat) (w w' : World) : Prop where
  u : Upd (fun k => B ≤ k) w w'
  k : Kn w w'
def Kd (w w' : World) : Prop := ∀ (k T : Nat) (cs : List Value), Blk w k T cs → T ≠ 5 → T ≠ 28 → T ≠ 58 → Blk w' k T cs
structure FD (B : Nat) (w w' : World) : Prop where
  u : Upd (fun k => B ≤ k) w w'
  k : Kd w w'
section
variable {w w' w'' w1 w2 : World} {B g : Nat} {ls s : Sl} {m : List Nat} {txt : List UInt8}
theorem FN.refl (B : Nat) (w : World) : FN B w w := ⟨Upd.refl _ _, fun _ _ _ h _ _ => h⟩
theorem FN.trans (h : FN B w w') (k : FN B w' w'') : FN B w w'' := ⟨h.u.same k.u, fun i T cs hb h1 h2 => k.k i T cs (h.k i T cs hb h1 h2) h1 h2⟩
theorem FN.ext (h : Ext w w') : FN B w w' := ⟨h.mono fun _ _ _ => not_false, fun _ _ _ hb _ _ => hb.ext h⟩
theorem FN.fd (h : FN B w w') : FD B w w' := ⟨h.u, fun i T cs hb _ h1 h2 => h.k i T cs hb h1 h2⟩
theorem FD.refl (B : Nat) (w : World) : FD B w w := (FN.refl B w).fd
theorem FD.trans (h : FD B w w') (k : FD B w' w'') : FD B w w'' := ⟨h.u.same k.u, fun i T cs hb h0 h1 h2 => k.k i T cs (h.k i T cs hb h0 h1 h2) h0 h1 h2⟩
theorem FD.ext (h : Ext w w') : FD B w w' := (FN.ext h).fd
theorem MP.ext (h : MP w B g ls m) (u : Ext w w') : MP w' B g ls m := ⟨h.hg.ext u, h.hm.ext u, h.lo, h.gd⟩
theorem MS.ext (h : MS w B g m) (u : Ext w w') : MS w' B g m := by obtain ⟨ls, h⟩ := h; exact ⟨ls, h.ext u⟩
theorem MS.gd (h : MS w B g m) : Gd m := by obtain ⟨ls, h⟩ := h; exact h.gd
theorem MS.size (h : MS w B g m) : B ≤ w.heap.size := by obtain ⟨ls, h⟩ := h; have := h.hg.lt; have := h.lo; omega
theorem MP.mn (h : MP w B g ls m) : ls.n = m.length := by have := h.hm.len1; unfold uv at this; rw [List.length_map] at this; exact this.symm
theorem own_kn {e z : Nat} {xs : List Value} (h : Own w B e z s xs) (k : Kn w w') (h1 : e ≠ 28) (h2 : e ≠ 58) : Own w' B e z s xs := by
  cases ha : s.a with
  | none =>
    obtain ⟨e1, e2⟩ := h.none_ ha
    subst e2; rw [e1]; exact Own.nil _ _ _ _
  | some p =>
    obtain ⟨g, cs, hg, hB, hb, hn, hc, hl, ht⟩ := h.blk (by rw [ha]; simp)
    rw [← ht]
    exact Own.of_blk (k _ _ _ hb h1 h2) hB hg hn hc hl
/-- bytes appended: the numbers stay -/
theorem MP.bytes (h : MP w B g ls m) (o : Own w B 5 1 s (tv txt)) (u : Upd (fun k => ∃ p, s.a = some p ∧ k = p.block) w w') : MP w' B g ls m ∧ FD B w w' := by
  have nb : ∀ {k T : Nat} {cs : List Value}, Blk w k T cs → T ≠ 5 → Blk w' k T cs := fun {k T cs} hb hT => hb.upd u (by rintro ⟨p, hp, e⟩; exact own_blk_ne o hb (fun e => hT e.symm) p hp e.symm)
  exact ⟨⟨nb h.hg (by decide), h.hm.upd u (by rintro p hp ⟨q, hq, e⟩; exact own_ne h.hm o (by decide) p q hp hq e), h.lo, h.gd⟩, u.mono fun k _ hn => by rintro ⟨p, hp, rfl⟩; exact hn (o.base p hp).1, fun k T cs hb h0 _ _ => nb hb h0⟩
theorem number_spec (h : MS w B g m) {id : Nat} (hid : id < 18446744073709551616) :
    Calls Tryd.prog 27 #[.pointer (some ⟨g, 0, none⟩), .int .u64 (id : Nat)] w fun e w' => e = .returned (.int .i64 ((numT m id).1 : Nat)) ∧ MS w' B g (numT m id).2 ∧ FN B w w' := by
  obtain ⟨ls, P⟩ := h
  refine vc_27 _ _ _ _ ?_
  have hn := P.mn
  have hlen := P.gd.len
  simp only [eq_self, false_or, or_false, true_and, and_true, decide_eq_true_eq, decide_eq_false_iff_not, gd_st, gd_sf, exists_eq_left', exists_eq_left, Option.some.injEq, Sl.eta, Nat.reduceLeDiff, Int.reduceLE, Int.reduceLT, Int.reduceEq, Int.reduceNe, Nat.reduceMul, Nat.reduceAdd, Nat.reduceSub, Int.toNat_natCast, beq_iff_eq, bne_iff_ne, beq_eq_false_iff_ne, bne_eq_false_iff_eq, pick_and, pick_or, Bool.and_eq_true, Bool.or_eq_true, Bool.and_eq_false_iff, Bool.or_eq_false_iff, ne_eq, not_false_eq_true, Bool.not_eq_true', Bool.not_eq_false', reduceCtorEq, Nat.le_refl, Nat.zero_mul, Nat.mul_one, Nat.zero_add, Int.reduceToNat, ones, one, add_mk, Decidable.not_not, cond_true, cond_false, true_implies, false_implies, implies_true, Bool.not_true, Bool.not_false]
  have z0 : IntKind.u64.wrap 0 = 0 := wrap_u64 (by decide) (by decide)
  refine ⟨fun w' => w' = w ∧ id ∉ m, ⟨⟨none, 0, 0⟩, P.hg.cell 1, fun hlt => absurd hlt (by rw [show ((0 : Nat) : Int) = 0 from rfl, z0]; omega), fun _ => ?_⟩, ?_⟩
  · refine ⟨fun n w' => ∃ k : Nat, n = (k : Nat) ∧ k ≤ m.length ∧ id ∉ m.take k ∧ w' = w, fun n _ => (m.length - n).toNat, ⟨0, rfl, Nat.zero_le _, by simp, rfl⟩, ?_⟩
    rintro _ n w1 ⟨k, rfl, hk, hno, rfl⟩
    have ek : IntKind.i64.wrap ((k : Int) + 1) = ((k + 1 : Nat) : Int) := by rw [wrap_i64 (by omega) (by omega)]; omega
    rw [ek]
    refine ⟨ls, P.hg.cell 0, fun hlt => ?_, fun hge => ⟨rfl, ?_⟩⟩
    · obtain ⟨p, hp, hc⟩ := P.hm.rd.2 (by omega)
      obtain ⟨x, hx⟩ : ∃ x, m[k]? = some x := ⟨_, List.getElem?_eq_getElem (by omega)⟩
      have hxc := hc k (.int .u64 (x : Nat)) (by unfold uv; rw [List.getElem?_map, hx]; rfl)
      refine ⟨ls, P.hg.cell 0, by omega, by omega, p, hp, _, by rw [Int.toNat_natCast]; exact hxc, fun he => ?_, fun hne => ⟨⟨k + 1, rfl, by omega, ?_, rfl⟩, by dsimp only; omega⟩⟩
      · have hxi : x = id := by omega
        subst hxi
        have hm := List.mem_of_getElem? hx
        have hidx : m.idxOf x = k := by
          obtain ⟨hk', e⟩ := List.getElem?_eq_some_iff.1 hx
          rw [← e]
          exact P.gd.nd.idxOf_getElem k hk'
        unfold numT
        rw [if_pos hm, hidx]
        exact ⟨rfl, ⟨ls, P⟩, FN.refl _ _⟩
      · rw [take_snoc hx, List.mem_append, List.mem_singleton]
        rintro (h | h)
        · exact hno h
        · exact hne (by rw [h])
    · rw [List.take_of_length_le (by omega)] at hno
      exact hno
  rintro _ w1 ⟨rfl, hnm⟩
  refine ⟨ls, P.hg.cell 0, fun hfull => ?_, fun hnf => ⟨ls, P.hg.cell 0, fun w2 n2 => ?_⟩⟩
  · unfold numT
    rw [if_neg hnm, if_pos (by omega)]
    exact ⟨rfl, ⟨ls, P⟩, FN.refl _ _⟩
  have en : numT m id = (m.length + 1, m ++ [id]) := by unfold numT; rw [if_neg hnm, if_neg (by omega)]
  have P2 := P.ext n2.ext
  have z2 := n2.size
  have zB : B ≤ w1.heap.size := by have := P.hg.lt; have := P.lo; omega
  have rd : Rd w2 1 ⟨some ⟨w1.heap.size, 0, none⟩, 1, 1⟩ (uv [id]) := (Blk.new n2).rd (z := 1) (o := 0) (n := 1) (c := 1) (by simp)
  obtain ⟨s3, w3, hr, hrn, o3, u3, _⟩ := P2.hm.append (t := 25) (ty := 25) tab_ok (by rfl) (by rfl) (by decide) rd (fun v hv => by unfold uv at hv; obtain ⟨_, _, rfl⟩ := List.mem_map.1 hv; trivial) (by dsimp only; omega) (by dsimp only; omega) (by omega)
  have e2 : uv m ++ uv [id] = uv (m ++ [id]) := by unfold uv; rw [List.map_append]
  rw [e2] at o3
  dsimp only at hrn
  have nb : ∀ {k T : Nat} {cs : List Value}, Blk w2 k T cs → T ≠ 28 → Blk w3 k T cs := fun {k T cs} hb hT => hb.upd u3 (by rintro ⟨p, hp, e⟩; exact own_blk_ne P2.hm hb (fun e => hT e.symm) p hp e.symm)
  have g3 := nb P2.hg (by decide)
  refine ⟨s3, w3, hr, g3.canSet 0 (by simp), fun w4 s4 => ?_⟩
  have g4 : Blk w4 g 58 [.slice s3.a s3.n s3.c, .slice none 0 0] := s4.blk1 g3
  have u4 : Upd (fun k => k = g) w3 w4 := s4.upd
  refine ⟨⟨none, 0, 0⟩, g4.cell 1, fun hlt => absurd hlt (by rw [show ((0 : Nat) : Int) = 0 from rfl, z0]; omega), fun _ => ⟨s3, g4.cell 0, ?_⟩⟩
  rw [en]
  refine ⟨by rw [show s3.n = m.length + 1 by omega], ⟨s3, g4, o3.upd u4 (own_blk_ne o3 g3 (by decide)), P.lo, by have := (numT_gd P.gd hid).1; rw [en] at this; exact this⟩, ?_, fun k T cs hb h1 h2 => ?_⟩
  · have a3 : Upd (fun k => B ≤ k) w1 w3 := Upd.trans n2.ext u3 fun i _ hn => ⟨not_false, by rintro ⟨p, hp, rfl⟩; exact hn (P2.hm.base p hp).1⟩
    exact a3.trans u4 fun i _ hn => ⟨hn, fun e => hn (by rw [e]; exact P.lo)⟩
  · have hb3 := nb (hb.ext n2.ext) h1
    exact hb3.upd u4 (hb3.ne g3 h2)
theorem told_spec (h : MS w B g m) (c : Cl) (hc : c.id < 18446744073709551616) :
    Calls Tryd.prog 25 #[.pointer (some ⟨g, 0, none⟩), .agg #[.bool c.ref, .int .u64 (c.id : Nat), .string (mkB c.text)]] w fun e w' => e = .returned (.string (mkB (cellT m c).1)) ∧ MS w' B g (cellT m c).2 ∧ FN B w w' := by
  refine vc_25 _ _ _ _ _ _ ?_
  simp only [eq_self, false_or, or_false, true_and, and_true, decide_eq_true_eq, decide_eq_false_iff_not, gd_st, gd_sf, exists_eq_left', exists_eq_left, Option.some.injEq, Sl.eta, Nat.reduceLeDiff, Int.reduceLE, Int.reduceLT, Int.reduceEq, Int.reduceNe, Nat.reduceMul, Nat.reduceAdd, Nat.reduceSub, Int.toNat_natCast, beq_iff_eq, bne_iff_ne, beq_eq_false_iff_ne, bne_eq_false_iff_eq, pick_and, pick_or, Bool.and_eq_true, Bool.or_eq_true, Bool.and_eq_false_iff, Bool.or_eq_false_iff, ne_eq, not_false_eq_true, Bool.not_eq_true', Bool.not_eq_false', reduceCtorEq, Nat.le_refl, Nat.zero_mul, Nat.mul_one, Nat.zero_add, Int.reduceToNat, ones, one, add_mk, Decidable.not_not, cond_true, cond_false, true_implies, false_implies, implies_true, Bool.not_true, Bool.not_false]
  intro w1 n1
  have k1 : Blk w1 w.heap.size 42 [.bool c.ref, .int .u64 (c.id : Nat), .string (mkB c.text)] := Blk.new n1
  have f1 : FN B w w1 := FN.ext n1.ext
  have h1 := h.ext n1.ext
  refine ⟨_, k1.cell 0, fun hr0 => ⟨_, k1.cell 2, fun he => ?_, fun hne => ⟨_, k1.cell 2, ?_⟩⟩, fun hr1 => ⟨_, k1.cell 1, fun hz => ?_, fun hnz => ⟨_, k1.cell 1, ⟨(number_spec h1 hc).mono ?_⟩⟩⟩⟩
  · rw [mkB_list, show (⟨#[]⟩ : ByteArray).toList = [] from mkB_list []] at he
    have ec : cellT m c = ([45], m) := by unfold cellT; rw [if_pos hr0, if_pos he]
    rw [ec]
    exact ⟨rfl, h1, f1⟩
  · rw [mkB_list, show (⟨#[]⟩ : ByteArray).toList = [] from mkB_list []] at hne
    have ec : cellT m c = (c.text, m) := by unfold cellT; rw [if_pos hr0, if_neg hne]
    rw [ec]
    exact ⟨rfl, h1, f1⟩
  · have ec : cellT m c = ([110, 111, 110, 101], m) := by unfold cellT; rw [if_neg (by rw [hr1]; decide), if_pos (by omega)]
    rw [ec]
    exact ⟨rfl, h1, f1⟩
  rintro e w2 ⟨rfl, h2, f2⟩
  have ec : cellT m c = (if (numT m c.id).1 = 0 then [35, 63] else 35 :: Lib.itoa ((numT m c.id).1 : Nat), (numT m c.id).2) := by unfold cellT; rw [if_neg (by rw [hr1]; decide), if_neg (by omega)]
  rw [ec]
  have hle := (numT_gd h.gd hc).2
  refine ⟨_, rfl, fun h0 => ?_, fun hn0 => ⟨(digits_spec (by omega) (by omega)).mono ?_⟩⟩
  · rw [if_pos (by omega)]
    exact ⟨rfl, h2, f1.trans f2⟩
  rintro e w3 ⟨rfl, x3⟩
  rw [if_neg (by omega)]
  have hl := itoa_len (n := ((numT m c.id).1 : Nat)) (by omega) (by omega)
  have ez : (⟨#[35]⟩ : ByteArray) = mkB [35] := rfl
  refine ⟨_, rfl, by rw [ez, mkB_size, mkB_size]; simp; omega, by rw [ez, mkB_append]; rfl, h2.ext x3, (f1.trans f2).trans (FN.ext x3)⟩
/-- one byte more -/
theorem app_byte (h : MS w B g m) (o : Own w B 5 1 s (tv txt)) (b : UInt8) {x : Int} (hx : ((b.toNat : Nat) : Int) = x) (hl : txt.length + 1 ≤ 70000000000000) (n1 : NewW w (.cells #[.int .u8 x] 5) w1) :
    ∃ (s' : Sl) (w2 : World), Runs Tryd.prog (Builtin.append_ #[59, 59] 59 #[.slice s.a s.n s.c, .slice (some ⟨w.heap.size, 0, none⟩) 1 1]) w1 (.slice s'.a s'.n s'.c) w2 ∧ MS w2 B g m ∧ Own w2 B 5 1 s' (tv (txt ++ [b])) ∧ FD B w w2 := by
  obtain ⟨ls, P⟩ := h
  have z0 : B ≤ w.heap.size := by have := P.hg.lt; have := P.lo; omega
  have z1 := n1.size
  have hn := o.len1
  rw [tv_length] at hn
  have o1 := o.ext n1.ext
  have rd : Rd w1 1 ⟨some ⟨w.heap.size, 0, none⟩, 1, 1⟩ (tv [b]) := by
    have : tv [b] = [.int .u8 x] := by rw [← hx]; rfl
    rw [this]
    exact (Blk.new n1).rd (z := 1) (o := 0) (n := 1) (c := 1) (by simp)
  obtain ⟨s', w2, hr, hrn, o2, u2, _⟩ := o1.append (t := 59) (ty := 59) tab_ok (by rfl) (by rfl) (by decide) rd (tv_ones _) (by dsimp only; omega) (by dsimp only; omega) (by omega)
  rw [← tv_append] at o2
  obtain ⟨P2, f2⟩ := (P.ext n1.ext).bytes o1 u2
  exact ⟨s', w2, hr, ⟨ls, P2⟩, o2, (FD.ext n1.ext).trans f2⟩
theorem app_str (h : MS w B g m) (o : Own w B 5 1 s (tv txt)) (t : List UInt8) (hl : txt.length + t.length ≤ 70000000000000) :
    ∃ (s' : Sl) (w2 : World), Runs Tryd.prog (Builtin.append_ #[59, 9] 59 #[.slice s.a s.n s.c, .string (mkB t)]) w (.slice s'.a s'.n s'.c) w2 ∧ MS w2 B g m ∧ Own w2 B 5 1 s' (tv (txt ++ t)) ∧ FD B w w2 := by
  obtain ⟨ls, P⟩ := h
  have z0 : B ≤ w.heap.size := by have := P.hg.lt; have := P.lo; omega
  have hn := o.len1
  rw [tv_length] at hn
  obtain ⟨s', w2, hr, hrn, o2, u2⟩ := o.appS t (by omega) (by omega)
  obtain ⟨P2, f2⟩ := P.bytes o u2
  exact ⟨s', w2, hr, ⟨ls, P2⟩, o2, f2⟩
theorem dcells_spec {l : List Cl} {sl : Sl} (h : MS w B g m) (o : Own w B 5 1 s (tv txt)) (hL : ∀ w', FD B w w' → Rd w' 3 sl (clV l)) (hc : Okc l) (hl : txt.length + cellsB l ≤ 60000000000000) :
    Calls Tryd.prog 22 #[.pointer (some ⟨g, 0, none⟩), .slice s.a s.n s.c, .slice sl.a sl.n sl.c] w fun e w' => ∃ s' : Sl, e = .returned (.slice s'.a s'.n s'.c) ∧ MS w' B g (cellsT m l).2 ∧ Own w' B 5 1 s' (tv (txt ++ (cellsT m l).1)) ∧ FD B w w' := by
  refine vc_22 _ _ _ _ _ ?_
  have hsn := (hL w (FD.refl _ _)).lencl
  simp only [eq_self, false_or, or_false, true_and, and_true, decide_eq_true_eq, decide_eq_false_iff_not, gd_st, gd_sf, exists_eq_left', exists_eq_left, Option.some.injEq, Sl.eta, Nat.reduceLeDiff, Int.reduceLE, Int.reduceLT, Int.reduceEq, Int.reduceNe, Nat.reduceMul, Nat.reduceAdd, Nat.reduceSub, Int.toNat_natCast, beq_iff_eq, bne_iff_ne, beq_eq_false_iff_ne, bne_eq_false_iff_eq, pick_and, pick_or, Bool.and_eq_true, Bool.or_eq_true, Bool.and_eq_false_iff, Bool.or_eq_false_iff, ne_eq, not_false_eq_true, Bool.not_eq_true', Bool.not_eq_false', reduceCtorEq, Nat.le_refl, Nat.zero_mul, Nat.mul_one, Nat.zero_add, Int.reduceToNat, ones, one, add_mk, Decidable.not_not, cond_true, cond_false, true_implies, false_implies, implies_true, Bool.not_true, Bool.not_false]
  have hll : l.length ≤ 60000000000000 := by
    have : ∀ l : List Cl, l.length ≤ cellsB l := fun l => by
      induction l with
      | nil => exact Nat.zero_le _
      | cons a l ih => unfold cellsB at *; rw [List.map_cons, List.sum_cons]; unfold cellB at *; simp only [List.length_cons]; omega
    have := this l; omega
  refine ⟨fun s n w' => ∃ (k : Nat) (t' : List UInt8) (m' : List Nat), n = (k : Nat) ∧ k ≤ l.length ∧ MS w' B g m' ∧ Own w' B 5 1 s (tv t') ∧ FD B w w' ∧ t' ++ (cellsT m' (l.drop k)).1 = txt ++ (cellsT m l).1 ∧ (cellsT m' (l.drop k)).2 = (cellsT m l).2 ∧ t'.length + cellsB (l.drop k) ≤ 60000000000000,
    fun _ n _ => (l.length - n).toNat, ⟨0, txt, m, rfl, Nat.zero_le _, h, o, FD.refl _ _, rfl, rfl, hl⟩, ?_⟩
  rintro _ s1 n w1 ⟨k, t', m', rfl, hk, h1, o1, f1, e1, e2, hb⟩
  have ek : IntKind.i64.wrap ((k : Int) + 1) = ((k + 1 : Nat) : Int) := by rw [wrap_i64 (by omega) (by omega)]; omega
  rw [ek]
  refine ⟨fun hlt w2 n2 => ?_, fun hge => ?_⟩
  rotate_left
  · have : k = l.length := by omega
    subst this
    rw [List.drop_length] at e1 e2
    simp only [show cellsT m' [] = ([], m') from rfl, List.append_nil] at e1 e2
    rw [← e1, ← e2]
    exact ⟨s1, rfl, h1, o1, f1⟩
  obtain ⟨c, hcl⟩ : ∃ c, l[k]? = some c := ⟨_, List.getElem?_eq_getElem (by omega)⟩
  have hdc := drop_cons hcl
  rw [hdc] at e1 e2 hb
  have hcB : cellsB (c :: l.drop (k + 1)) = cellB c + cellsB (l.drop (k + 1)) := by unfold cellsB; rw [List.map_cons, List.sum_cons]
  rw [hcB] at hb
  rw [cellsT] at e1 e2
  dsimp only at e1 e2
  have hci := hc c (List.mem_of_getElem? hcl)
  have hlen := (cellT_gd h1.gd hci).2
  obtain ⟨s3, w3, hr3, h3, o3, f3⟩ := app_byte h1 o1 32 rfl (by omega) n2
  have f03 := f1.trans f3
  obtain ⟨p, hp, g0, g1, g2⟩ := (hL w3 f03).cl hcl
  simp only [Int.toNat_natCast]
  refine ⟨s3, w3, hr3, by omega, by omega, p, hp, _, _, _, rfl, ⟨g0, g1, g2⟩, ⟨(told_spec h3 c hci).mono ?_⟩⟩
  rintro e w4 ⟨rfl, h4, f4⟩
  have o4 := own_kn o3 f4.k (by decide) (by decide)
  obtain ⟨s5, w5, hr5, h5, o5, f5⟩ := app_str h4 o4 (cellT m' c).1 (by rw [List.length_append, List.length_singleton]; omega)
  refine ⟨_, rfl, s5, w5, hr5, ⟨k + 1, _, _, rfl, by omega, h5, o5, (f03.trans f4.fd).trans f5, ?_, e2, ?_⟩, by omega⟩
  · rw [← e1]
    simp only [List.append_assoc, List.cons_append, List.nil_append]
  · rw [List.length_append, List.length_append, List.length_singleton]; omega
end
end Go.Proofs.YtepmokkhcombmaaDoor.V
