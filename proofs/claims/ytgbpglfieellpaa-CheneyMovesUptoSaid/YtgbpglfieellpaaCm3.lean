/-
  spoilt; law CheneyMoves: the walk.
-/
import Derived.Test.YtgbpglfieellpaaCm2
import Derived.Test.YtgbpglfieellpaaVcE
import Derived.Test.YtgbpglfieellpaaUpto
namespace Go.Proofs.Ytgbpglfieellpaa.V
open Go Go.RowKit
set_option linter.unusedVariables false
set_option linter.unusedSimpArgs false
set_option maxRecDepth 100000

abbrev WdR : Rw := .cons (.int .i64) (.cons (.int .i64) (.cons (.int .i64) (.cons (.int .u64) .nil)))
/-- a word to be written -/
structure WdAt (W0 : World) (p : Addr) (i : Nat) (a h o : Int) (y : Nat) : Prop where
  ba : -9223372036854775808 ≤ a ∧ a ≤ 9223372036854775807
  bh : -9223372036854775808 ≤ h ∧ h ≤ 9223372036854775807
  bo : -9223372036854775808 ≤ o ∧ o ≤ 9223372036854775807
  by_ : y < 18446744073709551616
  cs : ∀ w', Ext W0 w' → w'.cell? ((p.add (i * 4)).add 0) = some (.int .i64 a) ∧ w'.cell? ((p.add (i * 4)).add 1) = some (.int .i64 h) ∧ w'.cell? ((p.add (i * 4)).add 2) = some (.int .i64 o) ∧ w'.cell? ((p.add (i * 4)).add 3) = some (.int .u64 (y : Nat))
theorem words_at {w : World} {v : Value} {x : (Dt.sl 32 WdR).T} (h : (Dt.sl 32 WdR).Is w v x) : v = .slice x.1.a x.1.n x.1.c ∧ x.1.n ≤ x.1.c ∧ x.1.n ≤ 4000000000000000 ∧ ∀ i, i < x.1.n → ∃ p a hh o y, x.1.a = some p ∧ WdAt w p i a hh o y := by
  have h' := h
  unfold Dt.Is at h'
  obtain ⟨h1, h2, h3, h4, h5, h6, h7⟩ := h'
  rw [reach_eq] at h5
  refine ⟨h1, h3, by omega, fun i hi => ?_⟩
  obtain ⟨y, hy⟩ : ∃ y, x.2[i]? = some y := ⟨_, List.getElem?_eq_getElem (by omega)⟩
  obtain ⟨p, vs, hp, ha, hl, hi'⟩ := h7 i y hy
  simp only [Rw.Is] at hi'
  obtain ⟨_, _, rfl, i0, _, _, rfl, i1, _, _, rfl, i2, _, _, rfl, i3, rfl⟩ := hi'
  obtain ⟨rfl, j0⟩ : _ = _ ∧ _ := by simpa only [Dt.Is] using i0
  obtain ⟨rfl, j1⟩ : _ = _ ∧ _ := by simpa only [Dt.Is] using i1
  obtain ⟨rfl, j2⟩ : _ = _ ∧ _ := by simpa only [Dt.Is] using i2
  obtain ⟨rfl, j3⟩ : _ = _ ∧ _ := by simpa only [Dt.Is] using i3
  have k3 := wf_u64 j3
  refine ⟨p, y.1, y.2.1, y.2.2.1, y.2.2.2.1.toNat, hp, wf_i64 j0, wf_i64 j1, wf_i64 j2, by omega, fun w' u => ?_⟩
  have ha := ha.upd u not_false
  rw [show ((y.2.2.2.1.toNat : Nat) : Int) = y.2.2.2.1 by omega]
  exact ⟨ha 0 _ rfl, ha 1 _ rfl, ha 2 _ rfl, ha 3 _ rfl⟩
theorem setWO_same (A : Ar) (i : Int) (x : Nat) : (setWO A i x).1.ws.length = A.ws.length ∧ (setWO A i x).1.opn = A.opn := by
  unfold setWO
  split
  · exact ⟨List.length_set, rfl⟩
  · exact ⟨rfl, rfl⟩
section
variable {W0 w : World} {b g b2 g2 : Nat}
theorem spoilt_spec {A : Ar} {rs l : Sl} {rl : List Nat} (h1 : ArW 76 w b g A) (h2 : ArW 59 w b2 g2 A) (hne : b ≠ b2) (hr : Rd w 1 rs (uv rl)) (hro : ∀ q, rs.a = some q → q.block ≠ b ∧ q.block ≠ b2) (hrl : ∀ x ∈ rl, x < 18446744073709551616) (hrm : rl.length ≤ 1000000)
    (hl : ∀ i, i < l.n → ∃ p a hh o y, l.a = some p ∧ WdAt W0 p i a hh o y) (hln : l.n ≤ 4000000000000000) (x0 : Ext W0 w) (hB : W0.heap.size ≤ b ∧ W0.heap.size ≤ b2) :
    Calls Try.prog 20 #[.pointer (some ⟨g, 0, none⟩), .pointer (some ⟨g2, 0, none⟩), .slice rs.a rs.n rs.c, .slice l.a l.n l.c] w fun e w' => e = .returned (.tuple #[]) ∧ ∃ A', ArW 76 w' b g A' ∧ ArW 59 w' b2 g2 A' ∧ A'.opn = A.opn ∧ Upd (fun k => k = b ∨ k = b2) w w' := by
  refine vc_20 _ _ _ _ _ _ ?_
  have hrn := hr.lenu
  simp only [eq_self, false_or, or_false, true_and, and_true, decide_eq_true_eq, decide_eq_false_iff_not, gd_st, gd_sf, exists_eq_left', exists_eq_left, Option.some.injEq, Sl.eta, Nat.reduceLeDiff, Int.reduceLE, Int.reduceLT, Int.reduceEq, Int.reduceNe, Nat.reduceMul, Nat.reduceAdd, Nat.reduceSub, Int.toNat_natCast, beq_iff_eq, bne_iff_ne, beq_eq_false_iff_ne, bne_eq_false_iff_eq, pick_and, pick_or, Bool.and_eq_true, Bool.or_eq_true, Bool.and_eq_false_iff, Bool.or_eq_false_iff, ne_eq, not_false_eq_true, Bool.not_eq_true', Bool.not_eq_false', reduceCtorEq, Nat.le_refl, Nat.zero_mul, Nat.mul_one, Nat.zero_add, Int.reduceToNat, ones, one, add_mk, Decidable.not_not, cond_true, cond_false, true_implies, false_implies, implies_true, Bool.not_true, Bool.not_false]
  refine ⟨fun i w' => ∃ (k : Nat) (A' : Ar), i = (k : Nat) ∧ k ≤ l.n ∧ ArW 76 w' b g A' ∧ ArW 59 w' b2 g2 A' ∧ A'.opn = A.opn ∧ Upd (fun k => k = b ∨ k = b2) w w', fun i _ => (l.n - i).toNat,
    ⟨0, A, rfl, Nat.zero_le _, h1, h2, rfl, (Ext.refl _).toS⟩, ?_⟩
  rintro _ i w1 ⟨k, A1, rfl, hk, a1, r1, ho1, u1⟩
  have ei : IntKind.i64.wrap ((k : Int) + 1) = ((k + 1 : Nat) : Int) := by rw [wrap_i64 (by omega) (by omega)]; omega
  rw [ei]
  have hn1 := a1.ok.n; have hl1 := a1.ok.len
  have n1 := a1.hd.ne r1.ws (by decide); have n2 := r1.hd.ne a1.ws (by decide)
  refine ⟨fun hlt => ?_, fun hge => ⟨A1, a1, r1, ho1, u1⟩⟩
  refine ⟨⟨some ⟨b2, 0, none⟩, A1.ws.length, A1.ws.length⟩, r1.hd.cell 1, fun hw0 w2 q2 => ?_, fun _ => ⟨A1, a1, r1, ho1, u1⟩⟩
  dsimp only at hw0
  obtain ⟨p, a, hh, o, y, hp, hwd⟩ := hl k (by omega)
  have x2 := q2.ext
  have x02 : Ext W0 w2 := (x0.fresh u1 (by rintro k (rfl | rfl) <;> omega)).trans x2
  have ek : ((k : Nat) : Int).toNat = k := Int.toNat_natCast k
  have hwlt := hwd.by_
  -- both write the same word
  have fin : ∀ (v : World) (i : Int) (z : Nat), z < 18446744073709551616 → Ext w1 v → CallW Try.prog 38 #[.pointer (some ⟨g, 0, none⟩), .int .i64 i, .int .u64 (z : Nat)] v fun e w4 => ∃ b', e = .returned (.bool b') ∧
      CallW Try.prog 39 #[.pointer (some ⟨g2, 0, none⟩), .int .i64 i, .int .u64 (z : Nat)] w4 fun e w5 => ∃ b', e = .returned (.bool b') ∧
        (∃ (k' : Nat) (A' : Ar), ((k + 1 : Nat) : Int) = (k' : Nat) ∧ k' ≤ l.n ∧ ArW 76 w5 b g A' ∧ ArW 59 w5 b2 g2 A' ∧ A'.opn = A.opn ∧ Upd (fun k => k = b ∨ k = b2) w w5) ∧ (((l.n : Nat) : Int) - ((k + 1 : Nat) : Int)).toNat < (((l.n : Nat) : Int) - ((k : Nat) : Int)).toNat := by
    intro v i z hz xv
    refine ⟨(setWord_spec (a1.ext xv) i hz).mono ?_⟩
    rintro e v1 ⟨rfl, a2, ua⟩
    refine ⟨_, rfl, ⟨(rsetWord_spec ((r1.ext xv).upd ua (by omega) (by omega)) i hz).mono ?_⟩⟩
    rintro e v2 ⟨rfl, r2, ub⟩
    exact ⟨_, rfl, ⟨k + 1, _, rfl, by omega, a2.upd ub (by omega) (by omega), r2, (setWO_same A1 i z).2.trans ho1, ((u1.trans xv fun _ _ hn => ⟨hn, not_false⟩).trans ua fun _ _ hn => ⟨hn, fun e => hn (.inl e)⟩).trans ub fun _ _ hn => ⟨hn, fun e => hn (.inr e)⟩⟩, by omega⟩
  have rr : ∀ {v : World}, Ext w1 v → Rd v 1 rs (uv rl) := fun xv => (hr.upd u1 (fun q hq e => by have := hro q hq; omega)).ext xv
  have refAt : ∀ {v : World}, Ext w1 v → 0 < rs.n → ∃ (q : Addr) (z : Nat), rs.a = some q ∧ z < 18446744073709551616 ∧ v.cell? (q.add (pk o (rs.n : Int)).toNat) = some (.int .u64 (z : Nat)) := fun xv h0 => by
    have hpk := pk_lt (c := o) (n := (rs.n : Int)) (by omega)
    obtain ⟨q, z, hq, hz, hc⟩ := (rr xv).word (pk o (rs.n : Int)).toNat (by omega)
    rw [Nat.mul_one] at hc
    exact ⟨q, z, hq, hrl z (List.mem_of_getElem? hz), hc⟩
  refine ⟨fun _ => False, by omega, hlt, p, hp, a, fun v u => by rw [ek]; exact (hwd.cs v (x02.trans u)).1, ⟨some ⟨b2, 0, none⟩, A1.ws.length, A1.ws.length⟩, fun v u => ((r1.hd.ext x2).ext u).cell 1, ⟨(pick_spec a (A1.ws.length : Int) w2 hwd.ba.1 hwd.ba.2 (by omega)).mono ?_⟩⟩
  rintro e w3 ⟨rfl, rfl⟩
  refine ⟨_, rfl, by omega, hlt, p, hp, ((y : Nat) : Int), by rw [ek]; exact (hwd.cs w3 x02).2.2.2, ?_⟩
  refine ⟨fun bb w' => w' = w3 ∧ (bb = true → 0 < rs.n), ⟨by omega, hlt, p, hp, hh, by rw [ek]; exact (hwd.cs w3 x02).2.1, ⟨(pick_spec hh 4 w3 hwd.bh.1 hwd.bh.2 (by decide)).mono ?_⟩⟩, ?_⟩
  · rintro e w4 ⟨rfl, rfl⟩
    exact ⟨_, rfl, fun _ => ⟨rfl, fun h => by have := of_decide_eq_true h; omega⟩, fun _ => ⟨rfl, fun h => by cases h⟩⟩
  rintro _ bb w4 ⟨rfl, hbb⟩
  refine ⟨fun hb => ?_, fun hb => ?_⟩
  · have h0 := hbb hb
    have hpk := pk_lt (c := o) (n := (rs.n : Int)) (by omega)
    refine ⟨by omega, hlt, p, hp, o, by rw [ek]; exact (hwd.cs w4 x02).2.2.1, ⟨(pick_spec o (rs.n : Int) w4 hwd.bo.1 hwd.bo.2 (by omega)).mono ?_⟩⟩
    rintro e w5 ⟨rfl, rfl⟩
    obtain ⟨q, z, hq, hz, hc⟩ := refAt x2 h0
    exact ⟨_, rfl, hpk.1, hpk.2, q, hq, _, hc, fin _ _ _ hz x2⟩
  refine ⟨fun bb w' => w' = w4 ∧ (bb = true → 0 < rs.n), ⟨by omega, hlt, p, hp, hh, by rw [ek]; exact (hwd.cs w4 x02).2.1, ⟨(pick_spec hh 4 w4 hwd.bh.1 hwd.bh.2 (by decide)).mono ?_⟩⟩, ?_⟩
  · rintro e w5 ⟨rfl, rfl⟩
    exact ⟨_, rfl, fun _ => ⟨rfl, fun h => by have := of_decide_eq_true h; omega⟩, fun _ => ⟨rfl, fun h => by cases h⟩⟩
  rintro _ bb2 w5 ⟨rfl, hbb2⟩
  refine ⟨fun hb => ?_, fun hb => ?_⟩
  · have h0 := hbb2 hb
    have hpk := pk_lt (c := o) (n := (rs.n : Int)) (by omega)
    refine ⟨by omega, hlt, p, hp, o, by rw [ek]; exact (hwd.cs w5 x02).2.2.1, ⟨(pick_spec o (rs.n : Int) w5 hwd.bo.1 hwd.bo.2 (by omega)).mono ?_⟩⟩
    rintro e w6 ⟨rfl, rfl⟩
    obtain ⟨q, z, hq, hz, hc⟩ := refAt x2 h0
    have hwr : ∃ z' : Nat, IntKind.u64.wrap (4 * (z : Int)) = (z' : Nat) ∧ z' < 18446744073709551616 := by
      refine ⟨(IntKind.u64.wrap (4 * (z : Int))).toNat, ?_⟩
      rw [wrap_u64']
      omega
    obtain ⟨z', hz', hz2⟩ := hwr
    refine ⟨_, rfl, hpk.1, hpk.2, q, hq, _, hc, ?_⟩
    rw [hz']
    exact fin _ _ _ hz2 x2
  refine ⟨by omega, hlt, p, hp, hh, by rw [ek]; exact (hwd.cs w5 x02).2.1, ⟨(pick_spec hh 4 w5 hwd.bh.1 hwd.bh.2 (by decide)).mono ?_⟩⟩
  rintro e w6 ⟨rfl, rfl⟩
  refine ⟨_, rfl, fun h3 w7 q7 => ?_, fun h3 => fin _ _ _ hwlt x2⟩
  have x7 := q7.ext
  have x17 := x2.trans x7
  refine ⟨fun _ => False, ⟨some ⟨b2, 0, none⟩, A1.ws.length, A1.ws.length⟩, fun v u => ((r1.hd.ext x17).ext u).cell 1, by omega, hlt, p, hp, o, fun v u => by rw [ek]; exact (hwd.cs v ((x02.trans x7).trans u)).2.2.1, ⟨some ⟨b2, 0, none⟩, A1.ws.length, A1.ws.length⟩, fun v u => ((r1.hd.ext x17).ext u).cell 1, ⟨(pick_spec o (A1.ws.length : Int) w7 hwd.bo.1 hwd.bo.2 (by omega)).mono ?_⟩⟩
  rintro e w8 ⟨rfl, rfl⟩
  have hpk := pk_lt (c := o) (n := (A1.ws.length : Int)) (by omega)
  obtain ⟨j, hj⟩ : ∃ j : Nat, pk o (A1.ws.length : Int) = j := ⟨(pk o (A1.ws.length : Int)).toNat, by omega⟩
  rw [hj] at hpk ⊢
  have hwj : A1.ws[j]? = some (A1.ws.getD j 0) := by rw [List.getD_eq_getElem?_getD, List.getElem?_eq_getElem (by omega)]; rfl
  have hjl := a1.ok.lt _ (List.mem_of_getElem? hwj)
  refine ⟨_, rfl, Ext.refl _, by omega, hpk.2, _, rfl, ((A1.ws.getD j 0 : Nat) : Int), fun v u => ?_, ?_⟩
  · rw [Int.toNat_natCast, add_mk, Nat.zero_add, ((r1.ws.ext x17).ext u).cell]
    unfold uv
    rw [List.getElem?_map, hwj]; rfl
  · rw [not_u64 hjl]
    exact fin _ _ _ (by omega) x17
end
end Go.Proofs.Ytgbpglfieellpaa.V
