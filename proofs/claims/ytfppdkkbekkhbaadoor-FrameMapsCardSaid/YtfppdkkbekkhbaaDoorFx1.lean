/-
  Text by the document; its length.
-/
import Derived.Test.YtfppdkkbekkhbaaDoorFl1
import Derived.Test.YtfppdkkbekkhbaaDoorText
namespace Go.Proofs.YtfppdkkbekkhbaaDoor.V
open Go Go.RowKit
set_option linter.unusedVariables false
set_option linter.unusedSimpArgs false
set_option maxRecDepth 100000

theorem dd_small {u : Nat} (h : u < 10) : Lib.decDigits u = [UInt8.ofNat (48 + u)] := by rw [Lib.decDigits, dif_pos h]
theorem dd_big {u : Nat} (h : ¬ u < 10) : Lib.decDigits u = Lib.decDigits (u / 10) ++ [UInt8.ofNat (48 + u % 10)] := by rw [Lib.decDigits, dif_neg h]
theorem dd_len (u : Nat) : ∀ k, u < 10 ^ (k + 1) → (Lib.decDigits u).length ≤ k + 1 := by
  induction u using Nat.strongRecOn with
  | ind u ih =>
    intro k hk
    by_cases h : u < 10
    · rw [dd_small h]; simp
    · rw [dd_big h, List.length_append]
      cases k with
      | zero => rw [Nat.pow_one] at hk; exact absurd hk h
      | succ k =>
        have := ih (u / 10) (by omega) k (by rw [Nat.pow_succ] at hk; omega)
        simp only [List.length_singleton]; omega
def mkB (l : List UInt8) : ByteArray := ⟨l.toArray⟩
theorem mkB_append (a b : List UInt8) : mkB a ++ mkB b = mkB (a ++ b) := by
  apply ByteArray.ext
  rw [ByteArray.data_append]
  unfold mkB
  simp
theorem mkB_size (a : List UInt8) : (mkB a).size = a.length := by simp [mkB, ByteArray.size]
theorem mkB_data (b : ByteArray) : mkB b.data.toList = b := by unfold mkB; simp
def slotL (x : Int) : List UInt8 := if x = -1 then [45] else Lib.itoa x
theorem slotB_eq (x : Int) : slotB x = mkB (slotL x) := by
  unfold slotB slotL mkB
  split <;> rfl
theorem itoa_len {n : Int} (h0 : -9223372036854775808 ≤ n) (h1 : n ≤ 9223372036854775807) : (Lib.itoa n).length ≤ 21 := by
  have hd := dd_len n.natAbs 19 (by omega)
  unfold Lib.itoa
  split
  · simp only [List.length_cons]; omega
  · rw [show n.toNat = n.natAbs by omega]; omega
theorem slotL_len {n : Int} (h0 : -9223372036854775808 ≤ n) (h1 : n ≤ 9223372036854775807) : (slotL n).length ≤ 21 := by
  unfold slotL
  split
  · simp
  · exact itoa_len h0 h1
/-- the text, from the left -/
def textA (xs : List Int) : List UInt8 := (xs.map fun x => slotL x ++ [32]).flatten
def textZ (ys : List Int) : List UInt8 := (ys.map fun y => [32] ++ slotL y).flatten
theorem join_bar (sep bar : List UInt8) (bs : List (List UInt8)) : ∀ ls : List (List UInt8), Lib.join (ls ++ bar :: bs) sep = (ls.map (· ++ sep)).flatten ++ (bar ++ Lib.joinTail sep bs)
  | [] => by rw [List.nil_append, Lib.join_cons]; rfl
  | a :: ls => by
    rw [List.cons_append, Lib.join_cons, List.map_cons, List.flatten_cons, List.append_assoc, ← join_bar sep bar bs ls]
    have : ∀ l : List (List UInt8), l ≠ [] → Lib.joinTail sep l = sep ++ Lib.join l sep := by
      intro l hl
      cases l with
      | nil => exact absurd rfl hl
      | cons x r => rw [Lib.join_cons]; unfold Lib.joinTail; simp
    rw [this _ (by simp), List.append_assoc]
theorem textT_eq (xs ys : List Int) : textT xs ys = textA xs ++ ([124] ++ textZ ys) := by
  unfold textT wordsT textA textZ
  have e : ∀ l : List Int, (l.map slotB).map (fun b => b.data.toList) = l.map slotL := by
    intro l
    rw [List.map_map]
    refine List.map_congr_left fun x _ => ?_
    simp [slotB_eq, mkB]
  rw [List.map_append, List.map_append, e, e, List.append_assoc]
  show Lib.join (xs.map slotL ++ ([124] :: ys.map slotL)) [32] = _
  rw [join_bar, List.map_map]
  unfold Lib.joinTail
  rw [List.map_map]
  rfl
theorem textA_snoc {xs : List Int} {i : Nat} {x : Int} (h : xs[i]? = some x) : textA (xs.take (i + 1)) = textA (xs.take i) ++ slotL x ++ [32] := by
  unfold textA; rw [take_snoc h, List.map_append, List.flatten_append]; simp
theorem textZ_snoc {xs : List Int} {i : Nat} {x : Int} (h : xs[i]? = some x) : textZ (xs.take (i + 1)) = textZ (xs.take i) ++ [32] ++ slotL x := by
  unfold textZ; rw [take_snoc h, List.map_append, List.flatten_append]; simp
def Ok64 (xs : List Int) : Prop := ∀ y ∈ xs, -9223372036854775808 ≤ y ∧ y ≤ 9223372036854775807
theorem textA_len : ∀ {xs : List Int}, Ok64 xs → (textA xs).length ≤ 22 * xs.length
  | [], _ => Nat.le_refl _
  | x :: xs, h => by
    have := textA_len (xs := xs) fun y hy => h y (List.mem_cons_of_mem _ hy)
    have hx := slotL_len (h x (List.mem_cons_self ..)).1 (h x (List.mem_cons_self ..)).2
    unfold textA at this ⊢
    simp only [List.map_cons, List.flatten_cons, List.length_append, List.length_cons, List.length_nil]
    omega
theorem textZ_len : ∀ {xs : List Int}, Ok64 xs → (textZ xs).length ≤ 22 * xs.length
  | [], _ => Nat.le_refl _
  | x :: xs, h => by
    have := textZ_len (xs := xs) fun y hy => h y (List.mem_cons_of_mem _ hy)
    have hx := slotL_len (h x (List.mem_cons_self ..)).1 (h x (List.mem_cons_self ..)).2
    unfold textZ at this ⊢
    simp only [List.map_cons, List.flatten_cons, List.length_append, List.length_cons, List.length_nil]
    omega
theorem textT_len {xs ys : List Int} (hx : Ok64 xs) (hy : Ok64 ys) : (textT xs ys).length ≤ 22 * (xs.length + ys.length) + 1 := by
  have := textA_len hx; have := textZ_len hy
  rw [textT_eq, List.length_append, List.length_append, List.length_singleton]; omega
theorem Ok64.take {xs : List Int} (h : Ok64 xs) (i : Nat) : Ok64 (xs.take i) := fun y hy => h y (List.mem_of_mem_take hy)
theorem own_byte {w w1 : World} {x : Int} {e : Nat} (h : NewW w (.cells #[.int .u8 x] e) w1) : Rd w1 1 ⟨some ⟨w.heap.size, 0, none⟩, 1, 1⟩ [.int .u8 x] := (Blk.new h).rd (by simp)
section
variable {w : World}
theorem one_digit {w w1 : World} {m : Nat} {x : Int} (hx : x = ((48 + m % 10 : Nat) : Int)) (h : NewW w (.cells #[.int .u8 x] 5) w1) :
    Runs Tryd.prog (convert 69 9 (.slice (some ⟨w.heap.size, 0, none⟩) 1 1)) w1 (.string (mkB [UInt8.ofNat (48 + m % 10)])) w1 := by
  subst hx
  exact (show Rd w1 1 ⟨some ⟨w.heap.size, 0, none⟩, 1, 1⟩ (bv [48 + m % 10]) from own_byte h).text tab_ok rfl rfl rfl
theorem digits_spec {n : Int} (h0 : -9223372036854775808 ≤ n) (h1 : n ≤ 9223372036854775807) :
    Calls Tryd.prog 54 #[.int .i64 n] w fun e w' => e = .returned (.string (mkB (Lib.itoa n))) ∧ Ext w w' := by
  refine vc_54 _ _ _ ?_
  simp only [eq_self, false_or, or_false, true_and, and_true, decide_eq_true_eq, decide_eq_false_iff_not, gd_st, gd_sf, exists_eq_left', exists_eq_left, Option.some.injEq, Sl.eta, Nat.reduceLeDiff, Int.reduceLE, Int.reduceLT, Int.reduceEq, Int.reduceNe, Nat.reduceMul, Nat.reduceAdd, Nat.reduceSub, Int.toNat_natCast, beq_iff_eq, bne_iff_ne, beq_eq_false_iff_ne, bne_eq_false_iff_eq, pick_and, pick_or, Bool.and_eq_true, Bool.or_eq_true, Bool.and_eq_false_iff, Bool.or_eq_false_iff, ne_eq, not_false_eq_true, Bool.not_eq_true', Bool.not_eq_false', reduceCtorEq, Nat.le_refl, Nat.zero_mul, Nat.mul_one, Nat.zero_add, Int.reduceToNat, ones, one, add_mk, Decidable.not_not, cond_true, cond_false, true_implies, false_implies, implies_true, Bool.not_true, Bool.not_false]
  have hlen := dd_len n.natAbs 19 (by omega)
  refine ⟨fun b v w' => ∃ (m : Nat) (l : List UInt8), b = mkB l ∧ v = (if n < 0 then -(m : Int) else m) ∧ m ≤ n.natAbs ∧ Lib.decDigits n.natAbs = Lib.decDigits m ++ l ∧ Ext w w', fun _ v _ => v.natAbs, ⟨n.natAbs, [], rfl, by split <;> omega, Nat.le_refl _, by rw [List.append_nil], Ext.refl w⟩, ?_⟩
  rintro _ b v w1 ⟨m, l, rfl, hv, hm, hd, x1⟩
  have hl : l.length ≤ 20 := by rw [hd, List.length_append] at hlen; omega
  have et : v.tmod 10 = if n < 0 then -((m % 10 : Nat) : Int) else ((m % 10 : Nat) : Int) := by
    rw [hv]; split
    · rw [Int.neg_tmod, Int.tmod_eq_emod_of_nonneg (by omega)]; omega
    · rw [Int.tmod_eq_emod_of_nonneg (by omega)]; omega
  have ed : v.tdiv 10 = if n < 0 then -((m / 10 : Nat) : Int) else ((m / 10 : Nat) : Int) := by
    rw [hv]; split
    · rw [Int.neg_tdiv, Int.tdiv_eq_ediv_of_nonneg (by omega)]; omega
    · rw [Int.tdiv_eq_ediv_of_nonneg (by omega)]; omega
  have ew : IntKind.i64.wrap (v.tdiv 10) = v.tdiv 10 := by rw [wrap_i64] <;> (rw [ed]; split <;> omega)
  have eb : mkB [UInt8.ofNat (48 + m % 10)] ++ mkB l = mkB (UInt8.ofNat (48 + m % 10) :: l) := mkB_append _ _
  have z45 : (⟨#[45]⟩ : ByteArray) = mkB [45] := rfl
  have fin : v.tdiv 10 = 0 → (n < 0 → (⟨#[45]⟩ : ByteArray).size + (mkB [UInt8.ofNat (48 + m % 10)] ++ mkB l).size ≤ 9223372036854775807 ∧ (⟨#[45]⟩ ++ (mkB [UInt8.ofNat (48 + m % 10)] ++ mkB l) : ByteArray) = mkB (Lib.itoa n)) ∧ (¬ n < 0 → (mkB [UInt8.ofNat (48 + m % 10)] ++ mkB l) = mkB (Lib.itoa n)) := by
    intro hz
    have hm10 : m < 10 := by rw [ed] at hz; split at hz <;> omega
    rw [eb, z45, mkB_append, mkB_size, mkB_size]
    rw [dd_small hm10] at hd
    have em : m % 10 = m := Nat.mod_eq_of_lt hm10
    rw [em]
    refine ⟨fun hn => ⟨by simp; omega, ?_⟩, fun hn => ?_⟩
    · unfold Lib.itoa; rw [if_pos hn, hd]; rfl
    · unfold Lib.itoa; rw [if_neg hn, show n.toNat = n.natAbs by omega, hd]; rfl
  have go : ¬ v.tdiv 10 = 0 → ∀ w', Ext w w' → (∃ (m' : Nat) (l' : List UInt8), mkB [UInt8.ofNat (48 + m % 10)] ++ mkB l = mkB l' ∧ v.tdiv 10 = (if n < 0 then -(m' : Int) else m') ∧ m' ≤ n.natAbs ∧ Lib.decDigits n.natAbs = Lib.decDigits m' ++ l' ∧ Ext w w') ∧ (v.tdiv 10).natAbs < v.natAbs := by
    intro hz w' x'
    have hm10 : ¬ m < 10 := by intro h; apply hz; rw [ed]; split <;> omega
    refine ⟨⟨m / 10, _, eb, ed, by omega, ?_, x'⟩, by rw [ed, hv]; split <;> omega⟩
    rw [hd, dd_big hm10, List.append_assoc]; rfl
  have hsz : (mkB [UInt8.ofNat (48 + m % 10)]).size + (mkB l).size ≤ 9223372036854775807 := by rw [mkB_size, mkB_size]; simp; omega
  rw [ew]
  refine ⟨fun hneg w2 n2 => ⟨_, w2, one_digit (m := m) ?_ n2, hsz, fun hz => ⟨fun hn => ⟨((fin hz).1 hn).1, by rw [((fin hz).1 hn).2], x1.trans n2.ext⟩, fun hn => ⟨by rw [(fin hz).2 hn], x1.trans n2.ext⟩⟩, fun hz => go hz _ (x1.trans n2.ext)⟩, fun hpos w2 n2 => ⟨_, w2, one_digit (m := m) ?_ n2, hsz, fun hz => ⟨fun hn => ⟨((fin hz).1 hn).1, by rw [((fin hz).1 hn).2], x1.trans n2.ext⟩, fun hn => ⟨by rw [(fin hz).2 hn], x1.trans n2.ext⟩⟩, fun hz => go hz _ (x1.trans n2.ext)⟩⟩
  · rw [et] at hneg ⊢
    have hn : n < 0 := by
      split at hneg
      · assumption
      · omega
    rw [if_pos hn] at hneg ⊢
    have e1 : IntKind.i64.wrap (0 - -((m % 10 : Nat) : Int)) = ((m % 10 : Nat) : Int) := by rw [wrap_i64 (by omega) (by omega)]; omega
    rw [e1, wrap_i64 (by omega) (by omega), wrap_u8']; omega
  · rw [et] at hpos ⊢
    have hh : (if n < 0 then -((m % 10 : Nat) : Int) else ((m % 10 : Nat) : Int)) = ((m % 10 : Nat) : Int) := by
      split at hpos <;> split <;> omega
    rw [hh, wrap_i64 (by omega) (by omega), wrap_u8']; omega
theorem rslot_spec {n : Int} (h0 : -9223372036854775808 ≤ n) (h1 : n ≤ 9223372036854775807) :
    Calls Tryd.prog 36 #[.int .i64 n] w fun e w' => e = .returned (.string (mkB (slotL n))) ∧ Ext w w' := by
  refine vc_36 _ _ _ ?_
  simp only [eq_self, false_or, or_false, true_and, and_true, decide_eq_true_eq, decide_eq_false_iff_not, gd_st, gd_sf, exists_eq_left', exists_eq_left, Option.some.injEq, Sl.eta, Nat.reduceLeDiff, Int.reduceLE, Int.reduceLT, Int.reduceEq, Int.reduceNe, Nat.reduceMul, Nat.reduceAdd, Nat.reduceSub, Int.toNat_natCast, beq_iff_eq, bne_iff_ne, beq_eq_false_iff_ne, bne_eq_false_iff_eq, pick_and, pick_or, Bool.and_eq_true, Bool.or_eq_true, Bool.and_eq_false_iff, Bool.or_eq_false_iff, ne_eq, not_false_eq_true, Bool.not_eq_true', Bool.not_eq_false', reduceCtorEq, Nat.le_refl, Nat.zero_mul, Nat.mul_one, Nat.zero_add, Int.reduceToNat, ones, one, add_mk, Decidable.not_not, cond_true, cond_false, true_implies, false_implies, implies_true, Bool.not_true, Bool.not_false]
  refine ⟨fun h => ⟨by unfold slotL; rw [if_pos h]; rfl, Ext.refl w⟩, fun h => ⟨(digits_spec h0 h1).mono ?_⟩⟩
  rintro e w1 ⟨rfl, x1⟩
  exact ⟨_, rfl, by unfold slotL; rw [if_neg h], x1⟩
theorem rtext_spec {f0 f1 : Sl} {xs ys : List Int} (h : Fr2 w f0 f1 xs ys) (hx : Ok64 xs) (hy : Ok64 ys) (hm : xs.length + ys.length ≤ 4000000000000) :
    Calls Tryd.prog 19 #[frV f0 f1] w fun e w' => e = .returned (.string (mkB (textT xs ys))) ∧ Ext w w' := by
  refine vc_19 _ _ _ _ ?_
  have l0 := h.a.leni; have l1 := h.b.leni
  simp only [eq_self, false_or, or_false, true_and, and_true, decide_eq_true_eq, decide_eq_false_iff_not, gd_st, gd_sf, exists_eq_left', exists_eq_left, Option.some.injEq, Sl.eta, Nat.reduceLeDiff, Int.reduceLE, Int.reduceLT, Int.reduceEq, Int.reduceNe, Nat.reduceMul, Nat.reduceAdd, Nat.reduceSub, Int.toNat_natCast, beq_iff_eq, bne_iff_ne, beq_eq_false_iff_ne, bne_eq_false_iff_eq, pick_and, pick_or, Bool.and_eq_true, Bool.or_eq_true, Bool.and_eq_false_iff, Bool.or_eq_false_iff, ne_eq, not_false_eq_true, Bool.not_eq_true', Bool.not_eq_false', reduceCtorEq, Nat.le_refl, Nat.zero_mul, Nat.mul_one, Nat.zero_add, Int.reduceToNat, ones, one, add_mk, Decidable.not_not, cond_true, cond_false, true_implies, false_implies, implies_true, Bool.not_true, Bool.not_false]
  intro w1 n1
  have F : ∀ {v : World}, Ext w1 v → FB v w.heap.size f0 f1 := fun x => (Blk.new n1).ext x
  refine ⟨fun b n w' => ∃ i : Nat, n = i ∧ i ≤ f0.n ∧ b = mkB (textA (xs.take i)) ∧ Ext w1 w', fun _ n _ => (f0.n - n).toNat, ⟨0, rfl, Nat.zero_le _, rfl, Ext.refl w1⟩, ?_⟩
  rintro _ b n w2 ⟨i, rfl, hi, rfl, x2⟩
  have ei : IntKind.i64.wrap ((i : Int) + 1) = ((i + 1 : Nat) : Int) := by rw [wrap_i64 (by omega) (by omega)]; omega
  rw [ei, Int.toNat_natCast]
  refine ⟨f0, (F x2).cell 0, fun hlt => ?_, fun hge => ?_⟩
  · obtain ⟨p, x, hp, hxi, hcx⟩ := ((h.a.ext n1.ext).ext x2).intl i (by omega)
    rw [Nat.mul_one] at hcx
    have hb := hx x (List.mem_of_getElem? hxi)
    refine ⟨f0, (F x2).cell 0, by omega, hlt, p, hp, x, hcx, ⟨(rslot_spec hb.1 hb.2).mono ?_⟩⟩
    rintro e w3 ⟨rfl, x3⟩
    have hA := textA_len (hx.take i)
    have hs := slotL_len hb.1 hb.2
    rw [List.length_take] at hA
    have e32 : (⟨#[32]⟩ : ByteArray) = mkB [32] := rfl
    refine ⟨_, rfl, by rw [mkB_size, mkB_size]; omega, by rw [e32, mkB_append, mkB_size, mkB_size, List.length_append]; simp; omega, ⟨i + 1, rfl, by omega, ?_, x2.trans x3⟩, by dsimp only; omega⟩
    rw [e32, mkB_append, mkB_append, textA_snoc hxi]
  have hA := textA_len hx
  rw [List.take_of_length_le (by omega)]
  have e124 : (⟨#[124]⟩ : ByteArray) = mkB [124] := rfl
  have e32 : (⟨#[32]⟩ : ByteArray) = mkB [32] := rfl
  refine ⟨by rw [e124, mkB_size, mkB_size]; simp; omega, fun b n w' => ∃ i : Nat, n = i ∧ i ≤ f1.n ∧ b = mkB (textA xs ++ ([124] ++ textZ (ys.take i))) ∧ Ext w1 w', fun _ n _ => (f1.n - n).toNat, ⟨0, rfl, Nat.zero_le _, by rw [e124, mkB_append]; simp [textZ], x2⟩, ?_⟩
  rintro _ b n w3 ⟨j, rfl, hj, rfl, x3⟩
  have ej : IntKind.i64.wrap ((j : Int) + 1) = ((j + 1 : Nat) : Int) := by rw [wrap_i64 (by omega) (by omega)]; omega
  rw [ej, Int.toNat_natCast]
  refine ⟨f1, (F x3).cell 1, fun hlt => ?_, fun hge => ?_⟩
  · obtain ⟨p, y, hp, hyj, hcy⟩ := ((h.b.ext n1.ext).ext x3).intl j (by omega)
    rw [Nat.mul_one] at hcy
    have hb := hy y (List.mem_of_getElem? hyj)
    have hZ := textZ_len (hy.take j)
    have hs := slotL_len hb.1 hb.2
    rw [List.length_take] at hZ
    refine ⟨?_, f1, (F x3).cell 1, by omega, hlt, p, hp, y, hcy, ⟨(rslot_spec hb.1 hb.2).mono ?_⟩⟩
    · rw [e32, mkB_size, mkB_size]; simp; omega
    rintro e w4 ⟨rfl, x4⟩
    refine ⟨_, rfl, ?_, ⟨j + 1, rfl, by omega, ?_, x3.trans x4⟩, by dsimp only; omega⟩
    · rw [e32, mkB_append, mkB_size, mkB_size]; simp; omega
    · rw [e32, mkB_append, mkB_append, textZ_snoc hyj]; simp
  rw [List.take_of_length_le (by omega), ← textT_eq]
  exact ⟨rfl, n1.ext.trans x3⟩
end
end Go.Proofs.YtfppdkkbekkhbaaDoor.V
