/-
  Which slots are references, by both; law FrameMaps: the walk.
-/
import Derived.Test.YtfppdkkbekkhbaaDoorTyA7
import Derived.Test.YtfppdkkbekkhbaaDoorFx1
namespace Go.Proofs.YtfppdkkbekkhbaaDoor.V.T
open Go Go.RowKit
set_option linter.unusedVariables false
set_option linter.unusedSimpArgs false
set_option maxRecDepth 100000

/-- the reading of a list of types that is an argument -/
abbrev TyR : Rw := .cons (.int .i64) (.cons (.sl 8 (.cons (.int .i64) .nil)) (.cons (.int .i64) .nil))
structure ArgT (T : List Tp) : Prop where
  parts : ∀ t ∈ T, t.1.parts.length ≤ 17592186043904
  nums : ∀ t ∈ T, ∀ p ∈ t.1.parts, p ≤ 9223372036854775807
  of : ∀ t ∈ T, t.1.of ≤ 9223372036854775807
  caps : ∀ t ∈ T, t.2.n ≤ t.2.c
theorem is_types {w : World} {v : Value} {x : (Dt.sl 40 TyR).T} (h : (Dt.sl 40 TyR).Is w v x) :
    ∃ T : List Tp, v = .slice x.1.a x.1.n x.1.c ∧ x.1.n ≤ x.1.c ∧ x.1.n ≤ 4000000000000 ∧ Tys w x.1 T ∧ ArgT T := by
  simp only [Dt.Is] at h
  obtain ⟨h1, h2, h3, h4, h5, h6, h7⟩ := h
  rw [reach_eq] at h5
  refine ⟨x.2.map fun y => (⟨y.1, y.2.1.2.map fun z => z.1, y.2.2.1⟩, y.2.1.1), h1, h3, by omega, ⟨⟨?_, fun hn => ?_⟩, fun t ht => ?_⟩, ?_⟩
  · rw [tyFlat_len, List.length_map, h2]
  · obtain ⟨p, hp⟩ : ∃ p, x.1.a = some p := by
      cases ha : x.1.a with
      | none => have := h6 ha; omega
      | some p => exact ⟨p, rfl⟩
    refine ⟨p, hp, fun j v hj => ?_⟩
    have hjl := (List.getElem?_eq_some_iff.1 hj).1
    rw [tyFlat_len, List.length_map] at hjl
    have hi : j / 3 < x.2.length := by omega
    have hm : (x.2.map fun y => ((⟨y.1, y.2.1.2.map fun z => z.1, y.2.2.1⟩, y.2.1.1) : Tp))[j / 3]? = some (⟨x.2[j / 3].1, x.2[j / 3].2.1.2.map fun z => z.1, x.2[j / 3].2.2.1⟩, x.2[j / 3].2.1.1) := by
      rw [List.getElem?_map, List.getElem?_eq_getElem hi]; rfl
    have hg := tyFlat_get _ (j / 3) (j % 3) _ hm (Nat.mod_lt _ (by decide))
    rw [show j / 3 * 3 + j % 3 = j by omega, hj] at hg
    obtain ⟨p', vs, hp', hat, hl, hr⟩ := h7 (j / 3) _ (List.getElem?_eq_getElem hi)
    rw [hp] at hp'; injection hp' with hp'; subst hp'
    simp only [Rw.Is, Dt.Is] at hr
    obtain ⟨_, _, rfl, ⟨rfl, _⟩, _, _, rfl, ⟨rfl, _⟩, _, _, rfl, ⟨rfl, _⟩, rfl⟩ := hr
    have := hat (j % 3) v hg.symm
    rw [add_add] at this
    rw [show j / 3 * Rw.n TyR + j % 3 = j by simp only [Rw.n]; omega] at this
    exact this
  · obtain ⟨y, hy, rfl⟩ := List.mem_map.1 ht
    obtain ⟨i, hi, rfl⟩ := List.getElem_of_mem hy
    obtain ⟨p', vs, hp', hat, hl, hr⟩ := h7 i _ (List.getElem?_eq_getElem hi)
    simp only [Rw.Is] at hr
    obtain ⟨_, _, rfl, _, _, _, rfl, hr, _⟩ := hr
    have := (is_nums hr).2.2.2.2.1
    have e : iv (x.2[i].2.1.2.map fun z => z.1) = x.2[i].2.1.2.map fun z => .int .i64 z.1 := by unfold iv; exact List.map_map
    rw [e]; exact this
  · have key : ∀ t ∈ x.2.map fun y => ((⟨y.1, y.2.1.2.map fun z => z.1, y.2.2.1⟩, y.2.1.1) : Tp), t.1.parts.length ≤ 17592186043904 ∧ (∀ p ∈ t.1.parts, p ≤ 9223372036854775807) ∧ t.1.of ≤ 9223372036854775807 ∧ t.2.n ≤ t.2.c := by
      intro t ht
      obtain ⟨y, hy, rfl⟩ := List.mem_map.1 ht
      obtain ⟨i, hi, rfl⟩ := List.getElem_of_mem hy
      obtain ⟨p', vs, hp', hat, hl, hr⟩ := h7 i _ (List.getElem?_eq_getElem hi)
      simp only [Rw.Is] at hr
      obtain ⟨_, _, rfl, _, _, _, rfl, hr, _, _, rfl, ho, _⟩ := hr
      have hn := is_nums hr
      simp only [Dt.Is] at ho
      have hlen := hn.2.2.2.2.1.len1
      rw [List.length_map] at hlen
      refine ⟨?_, fun p hp => ?_, (wf_i64 ho.2).2, hn.2.1⟩
      · show (x.2[i].2.1.2.map fun z => z.1).length ≤ _
        rw [List.length_map]
        have := hn.2.2.1
        omega
      · obtain ⟨z, hz, rfl⟩ := List.mem_map.1 hp
        exact (wf_i64 (hn.2.2.2.2.2 z hz)).2
    exact ⟨fun t ht => (key t ht).1, fun t ht => (key t ht).2.1, fun t ht => (key t ht).2.2.1, fun t ht => (key t ht).2.2.2⟩

/-- bits of the first k places -/
def bN (f : Nat → Bool) : Nat → Nat
  | 0 => 0
  | k + 1 => if f k = true then bN f k ||| 2 ^ k else bN f k
theorem bN_lt (f : Nat → Bool) : ∀ k, bN f k < 2 ^ k
  | 0 => Nat.one_pos
  | k + 1 => by
    have := bN_lt f k
    unfold bN
    split
    · exact Nat.or_lt_two_pow (Nat.lt_trans this (Nat.pow_lt_pow_right (by omega) (by omega))) (Nat.pow_lt_pow_right (by omega) (by omega))
    · exact Nat.lt_trans this (Nat.pow_lt_pow_right (by omega) (by omega))
theorem bN_lt64 (f : Nat → Bool) {k : Nat} (hk : k ≤ 64) : bN f k < 18446744073709551616 :=
  Nat.lt_of_lt_of_le (bN_lt f k) (Nat.pow_le_pow_right (n := 2) (by omega) hk)
def slotF (L : List Ty) (xs : List Int) (i : Nat) : Bool := refT L (xs.getD i 0)
def bitsM (L : List Ty) (xs : List Int) : Nat := bN (slotF L xs) (min xs.length 64)
theorem bit_or (f : Nat → Bool) {i : Nat} (hi : i < 64) : bitV .or .u64 ((bN f i : Nat) : Int) (shlV .u64 1 (i : Int)) = ((bN f i ||| 2 ^ i : Nat) : Int) := by
  have hp : 2 ^ i < 18446744073709551616 := by
    have : 2 ^ i ≤ 2 ^ 63 := Nat.pow_le_pow_right (by omega) (by omega)
    omega
  have := shl_u64 1 i (by omega)
  rw [show ((1 : Nat) : Int) = 1 from rfl] at this
  rw [this, Nat.one_mul, Nat.mod_eq_of_lt hp, or_u64 _ _ (bN_lt64 f (by omega)) hp]
section
variable {w : World} {B g : Nat} {L : List Ty}
theorem bits_spec (h : Table w B g L) {s : Sl} {l : List Int} (hs : Rd w 1 s (iv l)) (hm : l.length ≤ 1000000000000000) : Calls Tryd.prog 47 #[.pointer (some ⟨g, 0, none⟩), .slice s.a s.n s.c] w fun e w' =>
    e = .returned (.int .u64 (bitsM L l : Nat)) ∧ w' = w := by
  refine vc_47 _ _ _ _ ?_
  have hl := hs.leni
  simp only [eq_self, false_or, or_false, true_and, and_true, decide_eq_true_eq, decide_eq_false_iff_not, gd_st, gd_sf, exists_eq_left', exists_eq_left, Option.some.injEq, Sl.eta, Nat.reduceLeDiff, Int.reduceLE, Int.reduceLT, Int.reduceEq, Int.reduceNe, Nat.reduceMul, Nat.reduceAdd, Nat.reduceSub, Int.toNat_natCast, beq_iff_eq, bne_iff_ne, beq_eq_false_iff_ne, bne_eq_false_iff_eq, pick_and, pick_or, Bool.and_eq_true, Bool.or_eq_true, Bool.and_eq_false_iff, Bool.or_eq_false_iff, ne_eq, not_false_eq_true, Bool.not_eq_true', Bool.not_eq_false', reduceCtorEq, Nat.le_refl, Nat.zero_mul, Nat.mul_one, Nat.zero_add, Int.reduceToNat, ones, one, add_mk, Decidable.not_not, cond_true, cond_false, true_implies, false_implies, implies_true, Bool.not_true, Bool.not_false]
  refine ⟨fun b n w' => ∃ i : Nat, n = i ∧ i ≤ l.length ∧ w' = w ∧ b = ((bN (slotF L l) (min i 64) : Nat) : Int), fun _ n _ => (l.length - n).toNat, ⟨0, rfl, by omega, rfl, rfl⟩, ?_⟩
  rintro _ b n w1 ⟨i, rfl, hi, rfl, rfl⟩
  have ei : IntKind.i64.wrap ((i : Int) + 1) = ((i + 1 : Nat) : Int) := by rw [wrap_i64 (by omega) (by omega)]; omega
  rw [ei, Int.toNat_natCast]
  refine ⟨fun hlt => ?_, fun hge => ⟨ri ?_, rfl⟩⟩
  · obtain ⟨p, x, hp, hx, hc⟩ := hs.intl i (by omega)
    rw [Nat.mul_one] at hc
    refine ⟨by omega, hlt, p, hp, x, hc, fun h64 => ⟨(ref_spec h x).mono ?_⟩, fun h64 => ⟨⟨i + 1, rfl, by omega, rfl, ?_⟩, by dsimp only; omega⟩⟩
    · rintro e w2 ⟨rfl, rfl⟩
      have hf : slotF L l i = refT L x := by unfold slotF; rw [List.getD_eq_getElem?_getD, hx]; rfl
      have e1 : min i 64 = i := by omega
      have e2 : min (i + 1) 64 = i + 1 := by omega
      refine ⟨_, rfl, fun hr => ⟨by omega, ⟨i + 1, rfl, by omega, rfl, ?_⟩, by dsimp only; omega⟩, fun hr => ⟨⟨i + 1, rfl, by omega, rfl, ?_⟩, by dsimp only; omega⟩⟩
      · rw [e1, e2, bit_or _ (by omega)]
        conv => rhs; unfold bN
        rw [if_pos (hf.trans hr)]
      · rw [e1, e2]
        conv => rhs; unfold bN
        rw [if_neg (by rw [hf, hr]; decide)]
    · rw [show min (i + 1) 64 = min i 64 by omega]
  · unfold bitsM; rw [show i = l.length by omega]
theorem map_spec (h : Table w B g L) {f0 f1 : Sl} {xs ys : List Int} (hf : Fr2 w f0 f1 xs ys) : Calls Tryd.prog 28 #[.pointer (some ⟨g, 0, none⟩), frV f0 f1] w fun e w' =>
    e = .returned (.agg #[.int .u64 (bitsM L xs : Nat), .int .u64 (bitsM L ys : Nat)]) ∧ Ext w w' := by
  refine vc_28 _ _ _ _ _ ?_
  have hm := hf.m; have hk := hf.k
  simp only [eq_self, false_or, or_false, true_and, and_true, decide_eq_true_eq, decide_eq_false_iff_not, gd_st, gd_sf, exists_eq_left', exists_eq_left, Option.some.injEq, Sl.eta, Nat.reduceLeDiff, Int.reduceLE, Int.reduceLT, Int.reduceEq, Int.reduceNe, Nat.reduceMul, Nat.reduceAdd, Nat.reduceSub, Int.toNat_natCast, beq_iff_eq, bne_iff_ne, beq_eq_false_iff_ne, bne_eq_false_iff_eq, pick_and, pick_or, Bool.and_eq_true, Bool.or_eq_true, Bool.and_eq_false_iff, Bool.or_eq_false_iff, ne_eq, not_false_eq_true, Bool.not_eq_true', Bool.not_eq_false', reduceCtorEq, Nat.le_refl, Nat.zero_mul, Nat.mul_one, Nat.zero_add, Int.reduceToNat, ones, one, add_mk, Decidable.not_not, cond_true, cond_false, true_implies, false_implies, implies_true, Bool.not_true, Bool.not_false]
  intro w1 n1 w2 n2 w3 q3
  have x3 := (n1.ext.trans n2.ext).trans q3.ext
  have f3 : FB w3 w.heap.size f0 f1 := (Blk.new n1).ext (n2.ext.trans q3.ext)
  have b3 := (Blk.new n2).ext q3.ext
  refine ⟨fun _ => False, f0, fun v u => (f3.ext u).cell 0, f1, fun v u => (f3.ext u).cell 1, ⟨(bits_spec (h.ext x3) (hf.a.ext x3) (by omega)).mono ?_⟩⟩
  rintro e w4 ⟨rfl, rfl⟩
  refine ⟨_, rfl, Upd.refl _ _, ⟨(bits_spec (h.ext x3) (hf.b.ext x3) (by omega)).mono ?_⟩⟩
  rintro e w5 ⟨rfl, rfl⟩
  have z1 := n1.size
  refine ⟨_, rfl, by simp [len', wr], by simp [len', wr], b3.canSetN 0 2 (by simp), fun w6 s6 => ?_⟩
  have b6 := s6.blk b3
  exact ⟨_, _, rfl, ⟨b6.cell 0, b6.cell 1⟩, rfl, x3.fresh s6.upd (by rintro i rfl; dsimp only; omega)⟩
variable {l : Sl} {T : List Tp}
theorem rbits_spec (h : Tys w l T) (hm : T.length ≤ 1000000000000000) {s : Sl} {xs : List Int} (hs : Rd w 1 s (iv xs)) (hb : ∀ y ∈ xs, y ≤ 9223372036854775807) (hk : xs.length ≤ 1000000000000000) :
    Calls Tryd.prog 48 #[.slice l.a l.n l.c, .slice s.a s.n s.c] w fun e w' => e = .returned (.int .u64 (bitsM (T.map (·.1)) xs : Nat)) ∧ w' = w := by
  refine vc_48 _ _ _ _ ?_
  have hl := hs.leni
  simp only [eq_self, false_or, or_false, true_and, and_true, decide_eq_true_eq, decide_eq_false_iff_not, gd_st, gd_sf, exists_eq_left', exists_eq_left, Option.some.injEq, Sl.eta, Nat.reduceLeDiff, Int.reduceLE, Int.reduceLT, Int.reduceEq, Int.reduceNe, Nat.reduceMul, Nat.reduceAdd, Nat.reduceSub, Int.toNat_natCast, beq_iff_eq, bne_iff_ne, beq_eq_false_iff_ne, bne_eq_false_iff_eq, pick_and, pick_or, Bool.and_eq_true, Bool.or_eq_true, Bool.and_eq_false_iff, Bool.or_eq_false_iff, ne_eq, not_false_eq_true, Bool.not_eq_true', Bool.not_eq_false', reduceCtorEq, Nat.le_refl, Nat.zero_mul, Nat.mul_one, Nat.zero_add, Int.reduceToNat, ones, one, add_mk, Decidable.not_not, cond_true, cond_false, true_implies, false_implies, implies_true, Bool.not_true, Bool.not_false]
  refine ⟨fun b n w' => ∃ i : Nat, n = i ∧ i ≤ xs.length ∧ i ≤ 64 ∧ w' = w ∧ b = ((bN (slotF (T.map (·.1)) xs) i : Nat) : Int), fun _ n _ => (xs.length - n).toNat, ⟨0, rfl, by omega, by omega, rfl, rfl⟩, ?_⟩
  rintro _ b n w1 ⟨i, rfl, hi, h64, rfl, rfl⟩
  have ei : IntKind.i64.wrap ((i : Int) + 1) = ((i + 1 : Nat) : Int) := by rw [wrap_i64 (by omega) (by omega)]; omega
  have eu : IntKind.u64.wrap (i : Int) = i := wrap_u64 (by omega) (by omega)
  rw [ei, eu, Int.toNat_natCast]
  refine ⟨fun hlt => ⟨fun hlt6 => ?_, fun hge => ⟨ri ?_, rfl⟩⟩, fun hge => ⟨ri ?_, rfl⟩⟩
  · obtain ⟨p, x, hp, hx, hc⟩ := hs.intl i (by omega)
    rw [Nat.mul_one] at hc
    refine ⟨by omega, hlt, p, hp, x, hc, ⟨(rref_spec h hm x (hb x (List.mem_of_getElem? hx))).mono ?_⟩⟩
    rintro e w2 ⟨rfl, rfl⟩
    have hf : slotF (T.map (·.1)) xs i = refT (T.map (·.1)) x := by unfold slotF; rw [List.getD_eq_getElem?_getD, hx]; rfl
    refine ⟨_, rfl, fun hr => ⟨by omega, ⟨i + 1, rfl, by omega, by omega, rfl, ?_⟩, by dsimp only; omega⟩, fun hr => ⟨⟨i + 1, rfl, by omega, by omega, rfl, ?_⟩, by dsimp only; omega⟩⟩
    · rw [bit_or _ (by omega)]
      conv => rhs; unfold bN
      rw [if_pos (hf.trans hr)]
    · conv => rhs; unfold bN
      rw [if_neg (by rw [hf, hr]; decide)]
  · unfold bitsM; rw [show min xs.length 64 = i by omega]
  · unfold bitsM; rw [show min xs.length 64 = i by omega]
theorem rmap_spec (h : Tys w l T) (hm : T.length ≤ 1000000000000000) {f0 f1 : Sl} {xs ys : List Int} (hf : Fr2 w f0 f1 xs ys) (hx : Ok64 xs) (hy : Ok64 ys) : Calls Tryd.prog 29 #[.slice l.a l.n l.c, frV f0 f1] w fun e w' =>
    e = .returned (.agg #[.int .u64 (bitsM (T.map (·.1)) xs : Nat), .int .u64 (bitsM (T.map (·.1)) ys : Nat)]) ∧ Ext w w' := by
  refine vc_29 _ _ _ _ _ ?_
  have hm' := hf.m; have hk := hf.k
  simp only [eq_self, false_or, or_false, true_and, and_true, decide_eq_true_eq, decide_eq_false_iff_not, gd_st, gd_sf, exists_eq_left', exists_eq_left, Option.some.injEq, Sl.eta, Nat.reduceLeDiff, Int.reduceLE, Int.reduceLT, Int.reduceEq, Int.reduceNe, Nat.reduceMul, Nat.reduceAdd, Nat.reduceSub, Int.toNat_natCast, beq_iff_eq, bne_iff_ne, beq_eq_false_iff_ne, bne_eq_false_iff_eq, pick_and, pick_or, Bool.and_eq_true, Bool.or_eq_true, Bool.and_eq_false_iff, Bool.or_eq_false_iff, ne_eq, not_false_eq_true, Bool.not_eq_true', Bool.not_eq_false', reduceCtorEq, Nat.le_refl, Nat.zero_mul, Nat.mul_one, Nat.zero_add, Int.reduceToNat, ones, one, add_mk, Decidable.not_not, cond_true, cond_false, true_implies, false_implies, implies_true, Bool.not_true, Bool.not_false]
  intro w1 n1 w2 n2 w3 q3
  have x3 := (n1.ext.trans n2.ext).trans q3.ext
  have f3 : FB w3 w.heap.size f0 f1 := (Blk.new n1).ext (n2.ext.trans q3.ext)
  have b3 := (Blk.new n2).ext q3.ext
  refine ⟨fun _ => False, f0, fun v u => (f3.ext u).cell 0, f1, fun v u => (f3.ext u).cell 1, ⟨(rbits_spec (h.ext x3) hm (hf.a.ext x3) (fun y hy' => (hx y hy').2) (by omega)).mono ?_⟩⟩
  rintro e w4 ⟨rfl, rfl⟩
  refine ⟨_, rfl, Upd.refl _ _, ⟨(rbits_spec (h.ext x3) hm (hf.b.ext x3) (fun y hy' => (hy y hy').2) (by omega)).mono ?_⟩⟩
  rintro e w5 ⟨rfl, rfl⟩
  have z1 := n1.size
  refine ⟨_, rfl, by simp [len', wr], by simp [len', wr], b3.canSetN 0 2 (by simp), fun w6 s6 => ?_⟩
  have b6 := s6.blk b3
  exact ⟨_, _, rfl, ⟨b6.cell 0, b6.cell 1⟩, rfl, x3.fresh s6.upd (by rintro i rfl; dsimp only; omega)⟩
end
theorem is_fro {w : World} {v : Value} {x : FrR.T} (h : (Par.agg FrR).Is w v x) : ∃ s t xs ys, v = frV s t ∧ Fr2 w s t xs ys ∧ Ok64 xs ∧ Ok64 ys := by
  simp only [Par.Is, Rw.Is] at h
  obtain ⟨_, rfl, _, _, rfl, h1, _, _, rfl, h2, rfl⟩ := h
  obtain ⟨rfl, _, a2, _, xs, a4, a5⟩ := is_ints h1
  obtain ⟨rfl, _, c2, _, ys, c4, c5⟩ := is_ints h2
  have la := a4.leni; have lb := c4.leni
  exact ⟨_, _, xs, ys, rfl, ⟨a4, c4, by omega, by omega⟩, a5, c5⟩
theorem framemaps_walkT (w : World) (v0 v1 : Value) (x0 : (Dt.sl 40 TyR).T) (x1 : FrR.T) (h0 : (Par.one (.sl 40 TyR)).Is w v0 x0) (h1 : (Par.agg FrR).Is w v1 x1) :
    Calls Tryd.prog 10 #[v0, v1] w fun e w' => e = .returned (.bool true) ∧ Ext w w' := by
  obtain ⟨T, rfl, _, hlm, hT, hA⟩ := is_types h0
  generalize x0.1 = l at *
  obtain ⟨f0, f1, xs, ys, rfl, hf, okx, oky⟩ := is_fro h1
  have hTl := hT.len
  refine vc_10 _ _ _ _ _ ?_
  simp only [eq_self, false_or, or_false, true_and, and_true, decide_eq_true_eq, decide_eq_false_iff_not, gd_st, gd_sf, exists_eq_left', exists_eq_left, Option.some.injEq, Sl.eta, Nat.reduceLeDiff, Int.reduceLE, Int.reduceLT, Int.reduceEq, Int.reduceNe, Nat.reduceMul, Nat.reduceAdd, Nat.reduceSub, Int.toNat_natCast, beq_iff_eq, bne_iff_ne, beq_eq_false_iff_ne, bne_eq_false_iff_eq, pick_and, pick_or, Bool.and_eq_true, Bool.or_eq_true, Bool.and_eq_false_iff, Bool.or_eq_false_iff, ne_eq, not_false_eq_true, Bool.not_eq_true', Bool.not_eq_false', reduceCtorEq, Nat.le_refl, Nat.zero_mul, Nat.mul_one, Nat.zero_add, Int.reduceToNat, ones, one, add_mk, Decidable.not_not, cond_true, cond_false, true_implies, false_implies, implies_true, Bool.not_true, Bool.not_false]
  intro w1 n1
  have z1 := n1.size
  refine ⟨(shown_spec w1).mono ?_⟩
  rintro e w2 ⟨rfl, x2⟩
  have x02 := n1.ext.trans x2
  have g2 : FB w2 w.heap.size f0 f1 := (Blk.new n1).ext x2
  have hp : ∀ t ∈ T, t.1.parts.length ≤ 1000000000000000 := fun t ht => by have := hA.parts t ht; omega
  refine ⟨_, rfl, ⟨(New_spec (hT.ext x02) hp).mono ?_⟩⟩
  rintro e w3 ⟨x3, hN⟩
  have x03 := x02.trans x3
  have R3 := rRight_spec (hT.ext x03) hp (fun t ht => hA.of t ht)
  rcases hN with ⟨hne, rfl⟩ | ⟨hz, g, rfl, ht⟩
  · refine ⟨_, _, rfl, ⟨R3.mono ?_⟩⟩
    rintro e w4 ⟨rfl, x4⟩
    exact ⟨_, _, rfl, fun _ => ⟨fun h => absurd h hne, fun _ => ⟨fun _ => ⟨rb (by simp), x03.trans x4⟩, fun h => (by cases h)⟩⟩, fun h => (by cases h)⟩
  refine ⟨_, _, rfl, ⟨R3.mono ?_⟩⟩
  rintro e w4 ⟨rfl, x4⟩
  rw [hz]
  have x04 := x03.trans x4
  have g4 := g2.ext (x3.trans x4)
  refine ⟨_, _, rfl, fun _ => ⟨fun _ => ⟨fun h => absurd rfl h, fun _ => ?_⟩, fun h => absurd rfl h⟩, fun h => (by cases h)⟩
  refine ⟨f0, f1, rfl, ⟨g4.cell 0, g4.cell 1⟩, ⟨(lent_spec (hf.ext x04)).mono ?_⟩⟩
  rintro e w5 ⟨o0, o1, rfl, oa, ob, oap, x5⟩
  refine ⟨o0, o1, rfl, fun w6 n6 => ⟨rfl, FB.can n6, fun w7 s7 => ?_⟩⟩
  obtain ⟨fo7, y7⟩ := FB.made n6 s7
  have x47 := x5.trans y7
  refine ⟨o0, o1, rfl, ⟨fo7.cell 0, fo7.cell 1⟩, ⟨(map_spec ((ht.ext x4).ext x47) ⟨(oa.ext y7).rd, (ob.ext y7).rd, hf.m, hf.k⟩).mono ?_⟩⟩
  rintro e w8 ⟨rfl, x8⟩
  refine ⟨_, _, rfl, fun w9 n9 => ⟨rfl, (Blk.new n9).canSetN 0 2 (by simp), fun w10 s10 => ?_⟩⟩
  have m10 := s10.blk (Blk.new n9)
  have y10 : Ext w8 w10 := n9.ext.fresh s10.upd (by rintro i rfl; exact Nat.le_refl _)
  have x710 := x8.trans y10
  have fo10 := fo7.ext x710
  have g10 := g4.ext (x47.trans x710)
  have X10 := x04.trans (x47.trans x710)
  refine ⟨o0, o1, rfl, ⟨fo10.cell 0, fo10.cell 1⟩, f0, f1, rfl, ⟨g10.cell 0, g10.cell 1⟩, ⟨(kept_spec (oa.ext (y7.trans x710)) (ob.ext (y7.trans x710)) oap (hf.ext X10)).mono ?_⟩⟩
  rintro e w11 ⟨rfl, u11⟩
  have z4 := x04.size; have z5 := x5.size; have z7 := y7.size; have z8 := x8.size; have z10 := y10.size; have z2 := x2.size; have z34 := (x3.trans x4).size
  have old : ∀ q, (o0.a = some q ∨ o1.a = some q) → w4.heap.size ≤ q.block ∧ q.block < w5.heap.size := by
    rintro q (hq | hq)
    · exact oa.o.base q hq
    · exact ob.o.base q hq
  have g11 := g10.upd u11 (by rintro ⟨q, hq, he⟩; have := old q hq; omega)
  have m11 := m10.upd u11 (by rintro ⟨q, hq, he⟩; have := old q hq; omega)
  have X11 : Ext w w11 := X10.fresh u11 (by rintro i ⟨q, hq, rfl⟩; have := (old q hq).1; omega)
  refine ⟨_, rfl, fun w12 q12 => ⟨fun _ => False, fun _ => ⟨_, _, rfl, fun v u => ⟨((m11.ext q12.ext).ext u).cell 0, ((m11.ext q12.ext).ext u).cell 1⟩, f0, f1, rfl, fun v u => ⟨((g11.ext q12.ext).ext u).cell 0, ((g11.ext q12.ext).ext u).cell 1⟩, ⟨(rmap_spec (hT.ext (X11.trans q12.ext)) (by omega) (hf.ext (X11.trans q12.ext)) okx oky).mono ?_⟩⟩, fun h => (by cases h)⟩⟩
  rintro e w13 ⟨rfl, x13⟩
  exact ⟨_, _, rfl, x13, rb (by simp), (X11.trans q12.ext).trans x13⟩
end Go.Proofs.YtfppdkkbekkhbaaDoor.V.T
namespace Go.Proofs.YtfppdkkbekkhbaaDoor.V
open Go Go.RowKit
theorem framemaps_walk (w : World) (L : Lay w) (v0 v1 : Value) (x0 : (Dt.sl 40 T.TyR).T) (x1 : FrR.T) (h0 : (Par.one (.sl 40 T.TyR)).Is w v0 x0) (h1 : (Par.agg FrR).Is w v1 x1) :
    Calls Tryd.prog 10 #[v0, v1] w fun e w' => e = .returned (.bool true) ∧ Ext w w' := T.framemaps_walkT w v0 v1 x0 x1 h0 h1
end Go.Proofs.YtfppdkkbekkhbaaDoor.V
