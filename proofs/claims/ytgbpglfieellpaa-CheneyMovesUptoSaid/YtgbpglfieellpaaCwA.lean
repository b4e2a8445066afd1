/-
  Things as they are handed in; header, named, room.
  named, room, met.
-/
import Derived.Test.YtgbpglfieellpaaCgA
import Derived.Test.YtgbpglfieellpaaRow
namespace Go.Proofs.Ytgbpglfieellpaa.V
open Go Go.RowKit
set_option linter.unusedVariables false
set_option linter.unusedSimpArgs false
set_option maxRecDepth 100000

/-- things, as they are handed in -/
structure ThsIs (W0 : World) (s : Sl) (ts : List Th) : Prop where
  n : ts.length = s.n
  at_ : ∀ (i : Nat) (t : Th), ts[i]? = some t → ∃ (p : Addr) (c m : Sl), s.a = some p ∧ (-9223372036854775808 ≤ t.K ∧ t.K ≤ 9223372036854775807) ∧ (-9223372036854775808 ≤ t.T ∧ t.T ≤ 9223372036854775807) ∧ (∀ y ∈ t.cs, y < 18446744073709551616) ∧ (∀ y ∈ t.ns, -9223372036854775808 ≤ y ∧ y ≤ 9223372036854775807) ∧
    ∀ w', Ext W0 w' → (w'.cell? ((p.add (i * 4)).add 0) = some (.int .i64 t.K) ∧ w'.cell? ((p.add (i * 4)).add 1) = some (.int .i64 t.T) ∧ w'.cell? ((p.add (i * 4)).add 2) = some (.slice c.a c.n c.c) ∧ w'.cell? ((p.add (i * 4)).add 3) = some (.slice m.a m.n m.c)) ∧ Rd w' 1 c (uv t.cs) ∧ Rd w' 1 m (iv t.ns)
theorem list_of {α : Type} {P : Nat → α → Prop} : ∀ n : Nat, (∀ i, i < n → ∃ t, P i t) → ∃ ts : List α, ts.length = n ∧ ∀ (i : Nat) (t : α), ts[i]? = some t → P i t
  | 0, _ => ⟨[], rfl, fun i t h => (by cases h)⟩
  | n + 1, h => by
    obtain ⟨ts, hl, hp⟩ := list_of n fun i hi => h i (by omega)
    obtain ⟨t, ht⟩ := h n (by omega)
    refine ⟨ts ++ [t], by rw [List.length_append, hl]; rfl, fun i u hu => ?_⟩
    rcases Nat.lt_or_ge i n with hi | hi
    · rw [List.getElem?_append_left (by omega)] at hu
      exact hp i u hu
    · have := (List.getElem?_eq_some_iff.1 hu).1
      rw [List.length_append, List.length_singleton] at this
      have hi' : i = n := by omega
      rw [List.getElem?_append_right (by omega), hi', hl, Nat.sub_self] at hu
      injection hu with hu; subst hu; rw [hi']; exact ht
abbrev ThR : Rw := .cons (.int .i64) (.cons (.int .i64) (.cons (.sl 8 (.cons (.int .u64) .nil)) (.cons (.sl 8 (.cons (.int .i64) .nil)) .nil)))
theorem ths_is {w : World} {v : Value} {x : (Dt.sl 64 ThR).T} (h : (Dt.sl 64 ThR).Is w v x) : v = .slice x.1.a x.1.n x.1.c ∧ x.1.n ≤ x.1.c ∧ x.1.n ≤ 4000000000000000 ∧ ∃ ts, ThsIs w x.1 ts := by
  have h' := h
  unfold Dt.Is at h'
  obtain ⟨h1, h2, h3, h4, h5, h6, h7⟩ := h'
  rw [reach_eq] at h5
  refine ⟨h1, h3, by omega, ?_⟩
  obtain ⟨ts, hl, hp⟩ := list_of (P := fun i (t : Th) => ∃ (p : Addr) (c m : Sl), x.1.a = some p ∧ (-9223372036854775808 ≤ t.K ∧ t.K ≤ 9223372036854775807) ∧ (-9223372036854775808 ≤ t.T ∧ t.T ≤ 9223372036854775807) ∧ (∀ y ∈ t.cs, y < 18446744073709551616) ∧ (∀ y ∈ t.ns, -9223372036854775808 ≤ y ∧ y ≤ 9223372036854775807) ∧
    ∀ w', Ext w w' → (w'.cell? ((p.add (i * 4)).add 0) = some (.int .i64 t.K) ∧ w'.cell? ((p.add (i * 4)).add 1) = some (.int .i64 t.T) ∧ w'.cell? ((p.add (i * 4)).add 2) = some (.slice c.a c.n c.c) ∧ w'.cell? ((p.add (i * 4)).add 3) = some (.slice m.a m.n m.c)) ∧ Rd w' 1 c (uv t.cs) ∧ Rd w' 1 m (iv t.ns)) x.1.n (fun i hi => by
    obtain ⟨y, hy⟩ : ∃ y, x.2[i]? = some y := ⟨_, List.getElem?_eq_getElem (by omega)⟩
    obtain ⟨p, vs, hp, ha, hl, hi'⟩ := h7 i y hy
    simp only [Rw.Is] at hi'
    obtain ⟨_, _, rfl, i0, _, _, rfl, i1, _, _, rfl, i2, _, _, rfl, i3, rfl⟩ := hi'
    obtain ⟨rfl, j0⟩ : _ = _ ∧ _ := by simpa only [Dt.Is] using i0
    obtain ⟨rfl, j1⟩ : _ = _ ∧ _ := by simpa only [Dt.Is] using i1
    obtain ⟨rfl, c1, c2, c3, cs, c4, c5⟩ := is_words i2
    obtain ⟨rfl, d1, d2, d3, ns, d4, d5⟩ := is_ints i3
    refine ⟨⟨y.1, y.2.1, cs, ns⟩, p, y.2.2.1.1, y.2.2.2.1.1, hp, wf_i64 j0, wf_i64 j1, c5, d5, fun w' u => ⟨?_, c4.ext u, d4.ext u⟩⟩
    have ha := ha.upd u not_false
    exact ⟨ha 0 _ rfl, ha 1 _ rfl, ha 2 _ rfl, ha 3 _ rfl⟩)
  exact ⟨ts, hl, hp⟩
theorem ThsIs.ext {W0 W1 : World} {s : Sl} {ts : List Th} (h : ThsIs W0 s ts) (x : Ext W0 W1) : ThsIs W1 s ts :=
  ⟨h.n, fun i t ht => by
    obtain ⟨p, c, m, hp, h1, h2, h3, h4, h5⟩ := h.at_ i t ht
    exact ⟨p, c, m, hp, h1, h2, h3, h4, fun w' x' => h5 w' (x.trans x')⟩⟩
theorem ThsIs.take {W0 : World} {s : Sl} {ts : List Th} (h : ThsIs W0 s ts) {k c : Nat} (hk : k ≤ s.n) : ThsIs W0 ⟨s.a, k, c⟩ (ts.take k) :=
  ⟨by rw [List.length_take, h.n]; exact Nat.min_eq_left hk, fun i t ht => by
    rw [List.getElem?_take] at ht
    split at ht
    · exact h.at_ i t ht
    · cases ht⟩
/-- a thing's two numbers and lists -/
abbrev thV (t : Th) (c m : Sl) : Value := .agg #[.int .i64 t.K, .int .i64 t.T, .slice c.a c.n c.c, .slice m.a m.n m.c]
abbrev thL (t : Th) (c m : Sl) : List Value := [.int .i64 t.K, .int .i64 t.T, .slice c.a c.n c.c, .slice m.a m.n m.c]
structure ThN (t : Th) (c m : Sl) : Prop where
  K : -9223372036854775808 ≤ t.K ∧ t.K ≤ 9223372036854775807
  T : -9223372036854775808 ≤ t.T ∧ t.T ≤ 9223372036854775807
  c : c.n = t.cs.length
  m : m.n = t.ns.length
theorem min9 (n : Nat) : (if 9 < (n : Int) then (9 : Int) else (n : Int)) = ((min n 9 : Nat) : Int) := by split <;> omega
section
variable {w : World} {t : Th} {c m : Sl}
theorem header_spec13 (h : ThN t c m) : Calls Try.prog 30 #[thV t c m] w fun e w' => e = .returned (hdV (hdrT t)) ∧ Ext w w' := by
  refine vc_30 _ _ _ _ _ _ ?_
  have hk := pk_lt (c := t.K) (n := 3) (by decide)
  have ht := pk_lt (c := t.T) (n := 256) (by decide)
  have hkT : IntKind.i64.wrap (1 + pk t.K 3) = kindT t := by rw [wrap_i64 (by omega) (by omega)]; rfl
  have hc9 : min c.n 9 = cN t := by unfold cN; rw [h.c]
  have hm9 : min m.n 9 = mN t := by unfold mN; rw [h.m]
  have hcN : cN t ≤ 9 := by unfold cN; omega
  have hmN : mN t ≤ 9 := by unfold mN; omega
  simp only [eq_self, false_or, or_false, true_and, and_true, decide_eq_true_eq, decide_eq_false_iff_not, gd_st, gd_sf, exists_eq_left', exists_eq_left, Option.some.injEq, Sl.eta, Nat.reduceLeDiff, Int.reduceLE, Int.reduceLT, Int.reduceEq, Int.reduceNe, Nat.reduceMul, Nat.reduceAdd, Nat.reduceSub, Int.toNat_natCast, beq_iff_eq, bne_iff_ne, beq_eq_false_iff_ne, bne_eq_false_iff_eq, pick_and, pick_or, Bool.and_eq_true, Bool.or_eq_true, Bool.and_eq_false_iff, Bool.or_eq_false_iff, ne_eq, not_false_eq_true, Bool.not_eq_true', Bool.not_eq_false', reduceCtorEq, Nat.le_refl, Nat.zero_mul, Nat.mul_one, Nat.zero_add, Int.reduceToNat, ones, one, add_mk, Decidable.not_not, cond_true, cond_false, true_implies, false_implies, implies_true, Bool.not_true, Bool.not_false]
  intro w1 n1 w2 n2
  have z1 := n1.size; have z2 := n2.size
  have x02 := n1.ext.trans n2.ext
  have th2 : Blk w2 w.heap.size 45 (thL t c m) := (Blk.new n1).ext n2.ext
  have rv2 : HB w2 w1.heap.size hd0 := Blk.new n2
  refine ⟨fun a w' => ∃ G, a = some ⟨G, 0, none⟩ ∧ Blk w' G 70 [.int .i64 (kindT t), .int .i64 (pk t.T 256), .int .i64 0, .int .u64 0] ∧ Ext w2 w' ∧ w2.heap.size ≤ G, fun w3 q3 => ?_, ?_⟩
  · have x3 := q3.ext
    have z3 := x3.size
    have th3 := th2.ext x3
    have made : ∀ {v v1 v2 : World}, Ext w3 v → NewW v (.cells #[.int .i64 0, .int .i64 0, .int .i64 0, .int .u64 0] 70) v1 → SetW v1 ⟨v.heap.size, 0, none⟩ [.int .i64 (IntKind.i64.wrap (1 + pk t.K 3)), .int .i64 (pk t.T 256), .int .i64 0, .int .u64 0] v2 → ∃ G, some (⟨v.heap.size, 0, none⟩ : Addr) = some ⟨G, 0, none⟩ ∧ Blk v2 G 70 [.int .i64 (kindT t), .int .i64 (pk t.T 256), .int .i64 0, .int .u64 0] ∧ Ext w2 v2 ∧ w2.heap.size ≤ G := by
      intro v v1 v2 xv m1 s2
      have hb := s2.blk (Blk.new m1)
      rw [hkT] at hb
      exact ⟨_, rfl, hb, (x3.trans (xv.trans m1.ext)).fresh s2.upd (by rintro i rfl; have := xv.size; dsimp only; omega), by have := xv.size; omega⟩
    have lz : ∀ {v : World}, Ext w3 v → w3.heap.size ≤ v.heap.size := fun x => x.size
    have no : ∀ {a : Value}, (2 ≤ len' (wr [Value.int .i64 0, .int .i64 0, .int .i64 0, .int .u64 0] 0 a)) := fun {a} => by simp [len', wr]
    refine ⟨fun k => w3.heap.size ≤ k, t.K, fun v u => (th3.upd u (by have := th3.lt; omega)).cell 0, t.T, fun v u => (th3.upd u (by have := th3.lt; omega)).cell 1, ⟨(pick_spec t.K 3 w3 h.K.1 h.K.2 (by decide)).mono ?_⟩, fun w4 n4 => ⟨n4.ext.toS, ⟨(pick_spec t.K 3 w4 h.K.1 h.K.2 (by decide)).mono ?_⟩⟩⟩
    · rintro e w4 ⟨rfl, rfl⟩
      refine ⟨_, rfl, .refl _ _, ⟨(pick_spec t.T 256 w4 h.T.1 h.T.2 (by decide)).mono ?_⟩, fun w5 n5 => ⟨n5.ext.toS, ⟨(pick_spec t.T 256 w5 h.T.1 h.T.2 (by decide)).mono ?_⟩⟩⟩
      · rintro e w5 ⟨rfl, rfl⟩
        refine ⟨_, rfl, .refl _ _, no, fun w6 n6 => ⟨n6.ext.toS, by simp [len', wr], (Blk.new n6).canSetN 0 4 (by simp), fun w7 s7 => ?_⟩⟩
        exact ⟨s7.upd.mono fun i hi hn e => hn (by dsimp only at e; omega), made (Ext.refl _) n6 s7⟩
      · rintro e w6 ⟨rfl, rfl⟩
        refine ⟨_, rfl, .refl _ _, no, by simp [len', wr], (Blk.new n5).canSetN 0 4 (by simp), fun w7 s7 => ?_⟩
        exact ⟨s7.upd.mono fun i hi hn e => hn (by dsimp only at e; omega), made (Ext.refl _) n5 s7⟩
    · rintro e w5 ⟨rfl, rfl⟩
      refine ⟨_, rfl, .refl _ _, ⟨(pick_spec t.T 256 w5 h.T.1 h.T.2 (by decide)).mono ?_⟩⟩
      rintro e w6 ⟨rfl, rfl⟩
      refine ⟨_, rfl, .refl _ _, no, by simp [len', wr], (Blk.new n4).canSetN 0 4 (by simp), fun w7 s7 => ?_⟩
      exact ⟨s7.upd.mono fun i hi hn e => hn (by dsimp only at e; omega), made (Ext.refl _) n4 s7⟩
  rintro _ a w3 ⟨G, rfl, hG, x3, hg⟩
  have th3 := th2.ext x3; have rv3 := rv2.ext x3
  have fin : ∀ {v : World} {H : Hd}, H = hdrT t → HB v G H → Ext w2 v → ∃ n n_1 n_2 n_3, len' [Value.int .i64 n, .int .i64 n_1, .int .i64 n_2, .int .u64 n_3] = 4 ∧ (v.cell? ((⟨G, 0, none⟩ : Addr).add 0) = some (.int .i64 n) ∧ v.cell? ((⟨G, 0, none⟩ : Addr).add 1) = some (.int .i64 n_1) ∧ v.cell? ((⟨G, 0, none⟩ : Addr).add 2) = some (.int .i64 n_2) ∧ v.cell? ((⟨G, 0, none⟩ : Addr).add 3) = some (.int .u64 n_3)) ∧
      len' [Value.int .i64 n, .int .i64 n_1, .int .i64 n_2, .int .u64 n_3] = 4 ∧ CanSet v ⟨w1.heap.size, 0, none⟩ 4 ∧ ∀ v', SetW v ⟨w1.heap.size, 0, none⟩ [.int .i64 n, .int .i64 n_1, .int .i64 n_2, .int .u64 n_3] v' → ∃ n n_4 n_5 n_6, len' [Value.int .i64 n, .int .i64 n_4, .int .i64 n_5, .int .u64 n_6] = 4 ∧ (v'.cell? ⟨w1.heap.size, 0, none⟩ = some (.int .i64 n) ∧ v'.cell? ⟨w1.heap.size, 1, none⟩ = some (.int .i64 n_4) ∧ v'.cell? ⟨w1.heap.size, 2, none⟩ = some (.int .i64 n_5) ∧ v'.cell? ⟨w1.heap.size, 3, none⟩ = some (.int .u64 n_6)) ∧
        Ending.returned (.agg #[.int .i64 n, .int .i64 n_4, .int .i64 n_5, .int .u64 n_6]) = .returned (hdV (hdrT t)) ∧ Ext w v' := by
    rintro v H rfl hb xv
    have rv := rv2.ext xv
    refine ⟨_, _, _, _, rfl, ⟨hb.cell 0, hb.cell 1, hb.cell 2, hb.cell 3⟩, rfl, rv.canSetN 0 4 (by simp), fun v' s' => ?_⟩
    have rv' := HB.set rv s'
    exact ⟨_, _, _, _, rfl, ⟨rv'.cell 0, rv'.cell 1, rv'.cell 2, rv'.cell 3⟩, rfl, (x02.trans xv).fresh s'.upd (by rintro i rfl; dsimp only; omega)⟩
  have e9c : (if 9 < (c.n : Int) then (9 : Int) else (c.n : Int)) = ((cN t : Nat) : Int) := by rw [min9, hc9]
  have e9m : (if 9 < (m.n : Int) then (9 : Int) else (m.n : Int)) = ((mN t : Nat) : Int) := by rw [min9, hm9]
  refine ⟨c, th3.cell 2, m, th3.cell 3, ?_⟩
  rw [e9c, e9m]
  refine ⟨_, rfl, _, hG.cell 0, fun h1 => ⟨_, rfl, hG.canSet 2 (by simp), fun w4 s4 => ?_⟩, fun h1 => ⟨fun h2 => ⟨_, rfl, hG.canSet 2 (by simp), fun w4 s4 => ?_⟩, fun h2 => ⟨_, rfl, hG.canSet 2 (by simp), fun w4 s4 => ?_⟩⟩⟩
  · have g4 := s4.blk1 (i := 2) hG
    rw [show IntKind.i64.wrap (((cN t : Nat) : Int) + ((mN t : Nat) : Int)) = ((cN t + mN t : Nat) : Int) by rw [wrap_i64 (by omega) (by omega)]; omega] at g4
    have em : IntKind.u64.wrap ((mN t : Nat) : Int) = ((mN t : Nat) : Int) := wrap_u64 (by omega) (by omega)
    have ec : IntKind.u64.wrap ((cN t : Nat) : Int) = ((cN t : Nat) : Int) := wrap_u64 (by omega) (by omega)
    have hp1 : 2 ^ mN t ≤ 2 ^ 9 := Nat.pow_le_pow_right (by omega) hmN
    have hp2 : 2 ^ cN t ≤ 2 ^ 9 := Nat.pow_le_pow_right (by omega) hcN
    have hp0 : 0 < 2 ^ mN t := Nat.pow_pos (by decide)
    have hb : (2 ^ mN t - 1) * 2 ^ cN t < 18446744073709551616 := by
      have := bitsT_lt (cN t) (mN t)
      have h18 : 2 ^ (cN t + mN t) ≤ 2 ^ 18 := Nat.pow_le_pow_right (by omega) (by omega)
      omega
    have es : shlV .u64 (IntKind.u64.wrap (shlV .u64 1 ((mN t : Nat) : Int) - 1)) ((cN t : Nat) : Int) = (((2 ^ mN t - 1) * 2 ^ cN t : Nat) : Int) := by
      rw [shl_one (by omega), show ((2 ^ mN t : Nat) : Int) - 1 = ((2 ^ mN t - 1 : Nat) : Int) by omega, wrap_u64 (by omega) (by omega), shl_u64 _ _ (by omega), Nat.mod_eq_of_lt hb]
    rw [em, ec, es]
    refine ⟨by omega, by omega, _, rfl, g4.canSet 3 (by simp), fun w5 s5 => ?_⟩
    have g5 := s5.blk1 (i := 3) g4
    simp only [List.set] at g4 g5
    have x5 : Ext w2 w5 := (x3.fresh s4.upd (by rintro i rfl; exact hg)).fresh s5.upd (by rintro i rfl; exact hg)
    refine ⟨_, rfl, fin (H := ⟨kindT t, pk t.T 256, ((cN t + mN t : Nat) : Int), (2 ^ mN t - 1) * 2 ^ cN t⟩) ?_ g5 x5⟩
    unfold hdrT
    rw [if_pos h1, h1]
  · have g4 := s4.blk1 (i := 2) hG
    simp only [List.set] at g4
    have x4 : Ext w2 w4 := x3.fresh s4.upd (by rintro i rfl; exact hg)
    refine ⟨_, rfl, fin (H := ⟨kindT t, pk t.T 256, ((cN t : Nat) : Int), 0⟩) ?_ g4 x4⟩
    unfold hdrT
    rw [if_neg h1, if_pos h2, h2]
  · have g4 := s4.blk1 (i := 2) hG
    simp only [List.set] at g4
    have x4 : Ext w2 w4 := x3.fresh s4.upd (by rintro i rfl; exact hg)
    have h3 : kindT t = 3 := by rcases kindT_cases t with h | h | h <;> omega
    refine ⟨_, rfl, fin (H := ⟨kindT t, pk t.T 256, ((mN t : Nat) : Int), 0⟩) ?_ g4 x4⟩
    unfold hdrT
    rw [if_neg h1, if_neg h2, h3]
end
end Go.Proofs.Ytgbpglfieellpaa.V
namespace Go.Proofs.Ytgbpglfieellpaa.V
open Go Go.RowKit
set_option linter.unusedVariables false
set_option linter.unusedSimpArgs false
set_option maxRecDepth 100000

def namI (N : Nat) (t : Th) (i : Nat) : Int :=
  match namT N t i with
  | some k => k
  | none => -1
def roomT (ts : List Th) : Nat := (ts.map fun t => lenT t + 2).sum
theorem roomT_snoc {ts : List Th} {i : Nat} {t : Th} (h : ts[i]? = some t) : roomT (ts.take (i + 1)) = roomT (ts.take i) + lenT t + 2 := by
  unfold roomT; rw [take_snoc h, List.map_append, List.sum_append]; simp; omega
theorem roomT_le : ∀ ts : List Th, roomT ts ≤ 20 * ts.length
  | [] => Nat.le_refl _
  | t :: ts => by
    have := roomT_le ts; have := lenT_le t
    have e : roomT (t :: ts) = lenT t + 2 + roomT ts := rfl
    rw [e, List.length_cons]; omega
theorem ThsIs.thn {W0 : World} {s : Sl} {ts : List Th} (h : ThsIs W0 s ts) {i : Nat} {t : Th} (ht : ts[i]? = some t) :
    ∃ (p : Addr) (c m : Sl), s.a = some p ∧ ThN t c m ∧ (∀ y ∈ t.cs, y < 18446744073709551616) ∧ (∀ y ∈ t.ns, -9223372036854775808 ≤ y ∧ y ≤ 9223372036854775807) ∧
      ∀ w', Ext W0 w' → (w'.cell? ((p.add (i * 4)).add 0) = some (.int .i64 t.K) ∧ w'.cell? ((p.add (i * 4)).add 1) = some (.int .i64 t.T) ∧ w'.cell? ((p.add (i * 4)).add 2) = some (.slice c.a c.n c.c) ∧ w'.cell? ((p.add (i * 4)).add 3) = some (.slice m.a m.n m.c)) ∧ Rd w' 1 c (uv t.cs) ∧ Rd w' 1 m (iv t.ns) := by
  obtain ⟨p, c, m, hp, h1, h2, h3, h4, h5⟩ := h.at_ i t ht
  obtain ⟨_, r1, r2⟩ := h5 W0 (Ext.refl _)
  exact ⟨p, c, m, hp, ⟨h1, h2, r1.lenu.symm, r2.leni.symm⟩, h3, h4, h5⟩
section
variable {w : World} {t : Th} {c m : Sl}
theorem named_spec {N i : Nat} (h : ThN t c m) (hm : Rd w 1 m (iv t.ns)) (hb : ∀ y ∈ t.ns, -9223372036854775808 ≤ y ∧ y ≤ 9223372036854775807) (hN : N ≤ 1000000) (hi : i < lenT t) :
    Calls Try.prog 31 #[thV t c m, hdV (hdrT t), .int .i64 (i : Nat), .int .i64 (N : Nat)] w fun e w' => e = .returned (.int .i64 (namI N t i)) ∧ Ext w w' := by
  refine vc_31 _ _ _ _ _ _ _ _ _ _ _ _ ?_
  have hl18 := lenT_le t
  have hc9 : min c.n 9 = cN t := by unfold cN; rw [h.c]
  have hcN : cN t ≤ 9 := by unfold cN; omega
  have hmN : mN t ≤ 9 ∧ mN t ≤ t.ns.length := by unfold mN; omega
  have hmn := hm.leni
  simp only [eq_self, false_or, or_false, true_and, and_true, decide_eq_true_eq, decide_eq_false_iff_not, gd_st, gd_sf, exists_eq_left', exists_eq_left, Option.some.injEq, Sl.eta, Nat.reduceLeDiff, Int.reduceLE, Int.reduceLT, Int.reduceEq, Int.reduceNe, Nat.reduceMul, Nat.reduceAdd, Nat.reduceSub, Int.toNat_natCast, beq_iff_eq, bne_iff_ne, beq_eq_false_iff_ne, bne_eq_false_iff_eq, pick_and, pick_or, Bool.and_eq_true, Bool.or_eq_true, Bool.and_eq_false_iff, Bool.or_eq_false_iff, ne_eq, not_false_eq_true, Bool.not_eq_true', Bool.not_eq_false', reduceCtorEq, Nat.le_refl, Nat.zero_mul, Nat.mul_one, Nat.zero_add, Int.reduceToNat, ones, one, add_mk, Decidable.not_not, cond_true, cond_false, true_implies, false_implies, implies_true, Bool.not_true, Bool.not_false]
  intro w1 n1 w2 n2
  have x2 := n1.ext.trans n2.ext
  have th2 : Blk w2 w.heap.size 45 (thL t c m) := (Blk.new n1).ext n2.ext
  have h2 : HB w2 w1.heap.size (hdrT t) := Blk.new n2
  have hk := hdrT_k t
  have e9c : (if 9 < (c.n : Int) then (9 : Int) else (c.n : Int)) = ((cN t : Nat) : Int) := by rw [min9, hc9]
  refine ⟨fun n w' => n = ((fromT t : Nat) : Int) ∧ w' = w2, ⟨_, h2.cell 0, fun h1 => ⟨c, th2.cell 2, ?_, rfl⟩, fun h1 => ⟨?_, rfl⟩⟩, ?_⟩
  · rw [e9c]; unfold fromT; rw [if_pos (by rw [← hk]; exact h1)]
  · unfold fromT; rw [if_neg (by rw [← hk]; exact h1)]; rfl
  rintro _ n w3 ⟨rfl, rfl⟩
  have wN : IntKind.i64.wrap ((N : Int) + 1) = ((N : Int) + 1) := wrap_i64 (by omega) (by omega)
  refine ⟨_, h2.cell 0, fun hne => ⟨fun hlt => ?_, fun hge => ?_⟩, fun he => ?_⟩
  · refine ⟨?_, x2⟩
    unfold namI namT
    rw [if_pos (.inr (by omega))]
  · have hne' : kindT t ≠ 2 := by rw [← hk]; exact hne
    have hlen : i - fromT t < mN t := by
      unfold lenT at hi; unfold fromT at hge ⊢
      rcases kindT_cases t with h | h | h
      · rw [if_pos h] at hi hge ⊢; omega
      · exact absurd h hne'
      · rw [if_neg (by omega), if_neg (by omega)] at hi; rw [if_neg (by omega)] at hge ⊢; omega
    have ew : IntKind.i64.wrap ((i : Int) - ((fromT t : Nat) : Int)) = ((i - fromT t : Nat) : Int) := by rw [wrap_i64 (by omega) (by omega)]; omega
    rw [ew, wN]
    obtain ⟨p, y, hp, hy, hcy⟩ := (hm.ext x2).intl (i - fromT t) (by omega)
    rw [Nat.mul_one] at hcy
    have hyb := hb y (List.mem_of_getElem? hy)
    have hyd : t.ns.getD (i - fromT t) 0 = y := by rw [List.getD_eq_getElem?_getD, hy]; rfl
    refine ⟨m, th2.cell 3, by omega, by omega, p, hp, y, by rw [Int.toNat_natCast]; exact hcy, ⟨(pick_spec y ((N : Int) + 1) w3 hyb.1 hyb.2 (by omega)).mono ?_⟩⟩
    rintro e w4 ⟨rfl, rfl⟩
    have hpk := pk_lt (c := y) (n := (N : Int) + 1) (by omega)
    refine ⟨_, rfl, fun he => ⟨?_, x2⟩, fun hne2 => ⟨?_, x2⟩⟩
    · unfold namI namT
      rw [if_neg (by rintro (h | h); exact hne' h; omega), hyd, if_pos he]
    · unfold namI namT
      rw [if_neg (by rintro (h | h); exact hne' h; omega), hyd, if_neg hne2]
      dsimp only
      rw [show (((pk y ((N : Int) + 1)).toNat : Nat) : Int) = pk y ((N : Int) + 1) by omega]
  · refine ⟨?_, x2⟩
    unfold namI namT
    rw [if_pos (.inl (by rw [← hk]; exact he))]
theorem room_spec {W0 : World} {s : Sl} {ts : List Th} (h : ThsIs W0 s ts) (x : Ext W0 w) (hl : ts.length ≤ 1000) :
    Calls Try.prog 9 #[.slice s.a s.n s.c] w fun e w' => e = .returned (.int .i64 (roomT ts : Nat)) ∧ Ext w w' := by
  refine vc_9 _ _ _ ?_
  have hn := h.n
  simp only [eq_self, false_or, or_false, true_and, and_true, decide_eq_true_eq, decide_eq_false_iff_not, gd_st, gd_sf, exists_eq_left', exists_eq_left, Option.some.injEq, Sl.eta, Nat.reduceLeDiff, Int.reduceLE, Int.reduceLT, Int.reduceEq, Int.reduceNe, Nat.reduceMul, Nat.reduceAdd, Nat.reduceSub, Int.toNat_natCast, beq_iff_eq, bne_iff_ne, beq_eq_false_iff_ne, bne_eq_false_iff_eq, pick_and, pick_or, Bool.and_eq_true, Bool.or_eq_true, Bool.and_eq_false_iff, Bool.or_eq_false_iff, ne_eq, not_false_eq_true, Bool.not_eq_true', Bool.not_eq_false', reduceCtorEq, Nat.le_refl, Nat.zero_mul, Nat.mul_one, Nat.zero_add, Int.reduceToNat, ones, one, add_mk, Decidable.not_not, cond_true, cond_false, true_implies, false_implies, implies_true, Bool.not_true, Bool.not_false]
  refine ⟨fun n k w' => ∃ i : Nat, k = i ∧ i ≤ ts.length ∧ n = ((roomT (ts.take i) : Nat) : Int) ∧ Ext w w', fun _ k _ => (ts.length - k).toNat, ⟨0, rfl, Nat.zero_le _, rfl, Ext.refl w⟩, ?_⟩
  rintro _ n k w1 ⟨i, rfl, hi, rfl, x1⟩
  refine ⟨fun hlt => ?_, fun hge => ⟨by rw [List.take_of_length_le (by omega)], x1⟩⟩
  obtain ⟨t, ht⟩ : ∃ t, ts[i]? = some t := ⟨_, List.getElem?_eq_getElem (by omega)⟩
  obtain ⟨p, c, m, hp, hth, h3, h4, h5⟩ := h.thn ht
  obtain ⟨hc, _, _⟩ := h5 w1 (x.trans x1)
  refine ⟨by omega, hlt, p, hp, t.K, t.T, c, m, rfl, by rw [Int.toNat_natCast]; exact hc, ⟨(header_spec13 hth).mono ?_⟩⟩
  rintro e w2 ⟨rfl, x2⟩
  have hr := roomT_le (ts.take i)
  rw [List.length_take] at hr
  have hl18 := lenT_le t
  have hsn := roomT_snoc ht
  have e1 : IntKind.i64.wrap (IntKind.i64.wrap (((roomT (ts.take i) : Nat) : Int) + (hdrT t).l) + 2) = ((roomT (ts.take (i + 1)) : Nat) : Int) := by
    rw [hdrT_l, wrap_i64 (n := ((roomT (ts.take i) : Nat) : Int) + _) (by omega) (by omega), wrap_i64 (by omega) (by omega)]; omega
  have ei : IntKind.i64.wrap ((i : Int) + 1) = ((i + 1 : Nat) : Int) := by rw [wrap_i64 (by omega) (by omega)]; omega
  refine ⟨_, _, _, _, rfl, ?_⟩
  rw [e1, ei]
  exact ⟨⟨i + 1, rfl, by omega, rfl, x1.trans x2⟩, by dsimp only; omega⟩
end
end Go.Proofs.Ytgbpglfieellpaa.V
