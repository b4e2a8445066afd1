/-
  Package num: the document's digits; the laws NumWrites and NumBack.
-/
import Derived.Test.YtjdiclgnimimnaaDoorNumP
namespace Go.Proofs.YtjdiclgnimimnaaDoor.V
open Go Go.RowKit
set_option linter.unusedVariables false
set_option linter.unusedSimpArgs false

theorem own_byte {w w1 : World} {x : Int} {e : Nat} (h : NewW w (.cells #[.int .u8 x] e) w1) : Rd w1 1 ⟨some ⟨w.heap.size, 0, none⟩, 1, 1⟩ [.int .u8 x] := (Blk.new h).rd (by simp)
section
variable {w : World} {R : Ending → World → Prop} {n : Int}
theorem one_digit {w w1 : World} {m : Nat} (h : NewW w (.cells #[.int .u8 (IntKind.u8.wrap (IntKind.u64.wrap (48 + (m : Int).tmod 10)))] 5) w1) :
    Runs Tryd.prog (convert 43 9 (.slice (some ⟨w.heap.size, 0, none⟩) 1 1)) w1 (.string (strOf [48 + m % 10])) w1 := by
  have e : IntKind.u8.wrap (IntKind.u64.wrap (48 + (m : Int).tmod 10)) = ((48 + m % 10 : Nat) : Int) := by
    rw [Int.tmod_eq_emod_of_nonneg (by omega), wrap_u64', wrap_u8']; omega
  rw [e] at h
  exact (show Rd w1 1 ⟨some ⟨w.heap.size, 0, none⟩, 1, 1⟩ (bv [48 + m % 10]) from own_byte h).text tab_ok rfl rfl rfl
theorem c23 (h0 : -9223372036854775808 ≤ n) (h1 : n ≤ 9223372036854775807) (h : ∀ w', Ext w w' → R (.returned (.string (strI n))) w') : CallW Tryd.prog 23 #[.int .i64 n] w R := by
  refine ⟨vc_23 _ _ _ ?_⟩
  simp only [eq_self, true_and, and_true, decide_eq_true_eq, decide_eq_false_iff_not, gd_st, gd_sf, exists_eq_left', exists_eq_left, Option.some.injEq, Sl.eta, Nat.reduceLeDiff, Int.reduceLE, Int.reduceLT, Int.reduceEq, Int.reduceNe, Nat.reduceMul, Nat.reduceAdd, Nat.reduceSub, Int.toNat_natCast, beq_iff_eq, bne_iff_ne, beq_eq_false_iff_ne, bne_eq_false_iff_eq, pick_and, pick_or, Bool.and_eq_true, Bool.or_eq_true, Bool.and_eq_false_iff, Bool.or_eq_false_iff, ne_eq, not_false_eq_true, Bool.not_eq_true', Bool.not_eq_false', reduceCtorEq, Nat.le_refl, Nat.zero_mul, Nat.mul_one, Nat.zero_add, Int.reduceToNat, ones, one, add_mk, Decidable.not_not, cond_true, cond_false, true_implies, false_implies, implies_true, Bool.not_true, Bool.not_false]
  have hlen := dd_len n.natAbs 19 (by omega)
  refine ⟨fun u w' => u = (n.natAbs : Int) ∧ w' = w, ⟨fun hn => ⟨by rw [wrap_u64', wrap_u64']; omega, rfl⟩, fun hn => ⟨by rw [wrap_u64']; omega, rfl⟩⟩, ?_⟩
  rintro _ u w1 ⟨rfl, rfl⟩ w2 n2
  generalize hU : n.natAbs = U at *
  have step : ∀ m : Nat, Lib.decDigits m = (if m / 10 = 0 then [] else Lib.decDigits (m / 10)) ++ (strOf [48 + m % 10]).data.toList := fun m => by
    have e : (strOf [48 + m % 10]).data.toList = [UInt8.ofNat (48 + m % 10)] := rfl
    rw [e]
    by_cases hm : m < 10
    · rw [dd_small hm, if_pos (by omega), Nat.mod_eq_of_lt hm]; rfl
    · rw [dd_big hm, if_neg (by omega)]
  refine ⟨_, _, one_digit n2, fun v b w' => ∃ m : Nat, v = m ∧ Lib.decDigits U = (if m = 0 then [] else Lib.decDigits m) ++ b.data.toList ∧ Ext w1 w', fun v _ _ => v.toNat, ⟨U / 10, ?_, step U, n2.ext⟩, ?_⟩
  · rw [Int.tdiv_eq_ediv_of_nonneg (by omega), wrap_u64 (by omega) (by omega)]; omega
  rintro _ v b w3 ⟨m, rfl, hd, x3⟩
  have hbl : b.size ≤ 20 := by
    have : b.data.toList.length ≤ 20 := by rw [hd, List.length_append] at hlen; omega
    rw [Array.length_toList] at this
    exact this
  have hmU : m ≤ U := by
    have := congrArg val10 hd
    rw [dd_val] at this
    by_cases hm : m = 0
    · omega
    · rw [if_neg hm] at this
      have key : ∀ (n : Nat) (l2 l1 : List UInt8), l2.length = n → val10 l1 ≤ val10 (l1 ++ l2) := by
        intro n
        induction n with
        | zero => intro l2 l1 hl; obtain rfl := List.eq_nil_of_length_eq_zero hl; simp
        | succ n ih =>
          intro l2 l1 hl
          rcases List.eq_nil_or_concat l2 with h' | ⟨l', c, h'⟩
          · rw [h'] at hl; simp at hl
          · rw [List.concat_eq_append] at h'
            rw [h'] at hl ⊢
            have := ih l' l1 (by simpa using hl)
            rw [← List.append_assoc, val10_snoc]
            omega
      have := key _ b.data.toList (Lib.decDigits m) rfl
      rw [dd_val] at this
      omega
  refine ⟨fun hm w4 n4 => ⟨_, _, one_digit n4, ?_, ⟨m / 10, ?_, ?_, x3.trans n4.ext⟩, ?_⟩, fun hm => ?_⟩
  · have : (strOf [48 + m % 10]).size = 1 := rfl
    omega
  · rw [Int.tdiv_eq_ediv_of_nonneg (by omega), wrap_u64 (by omega) (by omega)]; omega
  · rw [hd, if_neg (by omega), step m, ByteArray.data_append, Array.toList_append, List.append_assoc]
  · rw [Int.tdiv_eq_ediv_of_nonneg (by omega), wrap_u64 (by omega) (by omega)]
    dsimp only
    omega
  · obtain rfl : m = 0 := by omega
    rw [if_pos rfl, List.nil_append] at hd
    have hs := h w3 x3
    unfold strI Lib.itoa at hs
    refine ⟨fun hn => ⟨?_, ?_⟩, fun hn => ?_⟩
    · have : (⟨#[45]⟩ : ByteArray).size = 1 := rfl
      omega
    · rw [if_pos hn, hU, hd] at hs
      have e : (⟨#[45]⟩ ++ b : ByteArray) = ⟨(45 :: b.data.toList).toArray⟩ := by
        apply ByteArray.ext
        rw [ByteArray.data_append]
        apply Array.ext'
        simp
      rw [e]; exact hs
    · rw [if_neg hn, show n.toNat = U by omega, hd] at hs
      exact hs
theorem numwrites_spec (n : Int) (s : ByteArray) (h0 : -9223372036854775808 ≤ n) (h1 : n ≤ 9223372036854775807) (hs : s.size ≤ 281474976710656) (L : Lay w) :
    Calls Tryd.prog 5 #[.int .i64 n, .string s] w fun e w' => e = .returned (.bool true) ∧ Ext w w' := by
  refine vc_5 _ _ _ _ ?_
  simp only [eq_self, true_and, and_true, decide_eq_true_eq, decide_eq_false_iff_not, gd_st, gd_sf, exists_eq_left', exists_eq_left, Option.some.injEq, Sl.eta, Nat.reduceLeDiff, Int.reduceLE, Int.reduceLT, Int.reduceEq, Int.reduceNe, Nat.reduceMul, Nat.reduceAdd, Nat.reduceSub, Int.toNat_natCast, beq_iff_eq, bne_iff_ne, beq_eq_false_iff_ne, bne_eq_false_iff_eq, pick_and, pick_or, Bool.and_eq_true, Bool.or_eq_true, Bool.and_eq_false_iff, Bool.or_eq_false_iff, ne_eq, not_false_eq_true, Bool.not_eq_true', Bool.not_eq_false', reduceCtorEq, Nat.le_refl, Nat.zero_mul, Nat.mul_one, Nat.zero_add, Int.reduceToNat, ones, one, add_mk, Decidable.not_not, cond_true, cond_false, true_implies, false_implies, implies_true, Bool.not_true, Bool.not_false]
  refine c11 L fun w1 x1 => ⟨_, rfl, c20 hs (L.ext x1) fun w2 x2 => ⟨_, _, rfl, c21 hs ⟨_, _, rfl, fun _ => c22 h0 h1 ((L.ext x1).ext x2) fun w3 x3 => ⟨_, rfl, c23 h0 h1 fun w4 x4 => ⟨_, rfl, fun _ => ⟨fun _ => ⟨by simp, (by repeat' (first | assumption | exact Ext.refl _ | refine Ext.trans ?_ (by assumption) | refine Ext.trans ?_ (Qt.ext (by assumption)) | refine Ext.trans ?_ (NewW.ext (by assumption))))⟩, fun h => (h rfl).elim⟩, fun h => (h rfl).elim⟩⟩, fun h => by cases h⟩⟩⟩
theorem pint_digits (n : Int) (h0 : -9223372036854775808 ≤ n) (h1 : n ≤ 9223372036854775807) : pint (strI n) = if isN n = true then (n, true) else (0, false) := by
  split
  · rename_i hn
    exact pint_some hn rfl
  · rename_i hn
    exact pint_none fun v hv he => hn (by have := itoa_inj he; rw [← this]; exact hv)
theorem pint_cases (s : ByteArray) : (pint s = (0, false)) ∨ (∃ v, pint s = (v, true) ∧ isN v = true ∧ Lib.itoa v = s.data.toList) := by
  unfold pint
  split
  · rename_i v _
    by_cases h : isN v = true ∧ Lib.itoa v = s.data.toList
    · rw [if_pos h]; exact .inr ⟨v, rfl, h.1, h.2⟩
    · rw [if_neg h]; exact .inl rfl
  · exact .inl rfl
theorem numback_spec (n : Int) (s : ByteArray) (h0 : -9223372036854775808 ≤ n) (h1 : n ≤ 9223372036854775807) (hs : s.size ≤ 281474976710656) (L : Lay w) :
    Calls Tryd.prog 6 #[.int .i64 n, .string s] w fun e w' => e = .returned (.bool true) ∧ Ext w w' := by
  refine vc_6 _ _ _ _ ?_
  simp only [eq_self, true_and, and_true, decide_eq_true_eq, decide_eq_false_iff_not, gd_st, gd_sf, exists_eq_left', exists_eq_left, Option.some.injEq, Sl.eta, Nat.reduceLeDiff, Int.reduceLE, Int.reduceLT, Int.reduceEq, Int.reduceNe, Nat.reduceMul, Nat.reduceAdd, Nat.reduceSub, Int.toNat_natCast, beq_iff_eq, bne_iff_ne, beq_eq_false_iff_ne, bne_eq_false_iff_eq, pick_and, pick_or, Bool.and_eq_true, Bool.or_eq_true, Bool.and_eq_false_iff, Bool.or_eq_false_iff, ne_eq, not_false_eq_true, Bool.not_eq_true', Bool.not_eq_false', reduceCtorEq, Nat.le_refl, Nat.zero_mul, Nat.mul_one, Nat.zero_add, Int.reduceToNat, ones, one, add_mk, Decidable.not_not, cond_true, cond_false, true_implies, false_implies, implies_true, Bool.not_true, Bool.not_false]
  have hsz : (strI n).size ≤ 281474976710656 := by
    have hd := dd_len n.natAbs 19 (by omega)
    have e : (strI n).size = (Lib.itoa n).length := by unfold strI; simp [ByteArray.size]
    rw [e]
    unfold Lib.itoa
    split
    · simp only [List.length_cons]; omega
    · rw [show n.toNat = n.natAbs by omega]; omega
  refine c11 L fun w1 x1 => ⟨_, rfl, c22 h0 h1 (L.ext x1) fun w2 x2 => ⟨_, rfl, c20 hsz ((L.ext x1).ext x2) fun w3 x3 => ⟨_, _, rfl, c20 hs (((L.ext x1).ext x2).ext x3) fun w4 x4 => ⟨_, _, rfl, ?_⟩⟩⟩⟩
  have x04 : Ext w w4 := (by repeat' (first | assumption | exact Ext.refl _ | refine Ext.trans ?_ (by assumption) | refine Ext.trans ?_ (Qt.ext (by assumption)) | refine Ext.trans ?_ (NewW.ext (by assumption))))
  refine ⟨fun w' => w' = w4, ⟨fun _ => c12 ⟨_, rfl, ?_⟩, fun h => by cases h⟩, ?_⟩
  · rw [pint_digits n h0 h1]
    cases hN : isN n with
    | true => exact ⟨fun _ => ⟨fun _ => ⟨fun h => (h rfl).elim, fun _ => rfl⟩, fun h => by cases h⟩, fun h => (h rfl).elim⟩
    | false => exact ⟨fun _ => ⟨fun h => (by cases h), fun _ => rfl⟩, fun h => (h rfl).elim⟩
  rintro _ w5 rfl
  rcases pint_cases s with hp | ⟨v, hp, hv, hit⟩
  · rw [hp]
    exact ⟨fun _ => ⟨fun h => (h rfl).elim, fun _ => x04⟩, fun h => by cases h⟩
  · rw [hp]
    have hb : -4611686018427387904 ≤ v ∧ v ≤ 4611686018427387903 := by simpa [isN] using hv
    refine ⟨fun h => (by cases h), fun _ => ⟨fun _ => c12 ⟨_, rfl, fun _ => c22 (by omega) (by omega) (L.ext x04) fun w6 x6 => ⟨_, rfl, ?_, x04.trans x6⟩, fun h => by rw [hv] at h; cases h⟩, fun h => by cases h⟩⟩
    rw [ByteArray.toList_eq, ByteArray.toList_eq]
    show Ending.returned (.bool (Lib.itoa v == s.data.toList)) = _
    rw [hit]
    simp
end
theorem numwrites_walk (w : World) (L : Lay w) (v0 v1 : Value) (x0 : Int) (x1 : ByteArray) (h0 : (Par.one (.int .i64)).Is w v0 x0) (h1 : (Par.one (.str)).Is w v1 x1) : Calls Tryd.prog 5 #[v0, v1] w fun e w' => e = .returned (.bool true) ∧ Ext w w' := by
  obtain ⟨rfl, hw⟩ := h0
  obtain ⟨rfl, hs⟩ := h1
  have hb := wf_i64 hw
  rw [reach_eq] at hs
  exact numwrites_spec _ _ hb.1 hb.2 (by omega) L
theorem numback_walk (w : World) (L : Lay w) (v0 v1 : Value) (x0 : Int) (x1 : ByteArray) (h0 : (Par.one (.int .i64)).Is w v0 x0) (h1 : (Par.one (.str)).Is w v1 x1) : Calls Tryd.prog 6 #[v0, v1] w fun e w' => e = .returned (.bool true) ∧ Ext w w' := by
  obtain ⟨rfl, hw⟩ := h0
  obtain ⟨rfl, hs⟩ := h1
  have hb := wf_i64 hw
  rw [reach_eq] at hs
  exact numback_spec _ _ hb.1 hb.2 (by omega) L
end Go.Proofs.YtjdiclgnimimnaaDoor.V
