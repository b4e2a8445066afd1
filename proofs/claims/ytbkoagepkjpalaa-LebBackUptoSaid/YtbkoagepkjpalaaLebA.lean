/-
  Law LebApart.
-/
import Derived.Test.YtbkoagepkjpalaaLeb6
import Derived.Test.YtbkoagepkjpalaaVc3
namespace Go.Proofs.Ytbkoagepkjpalaa.V
open Go Go.RowKit
set_option linter.unusedVariables false
set_option linter.unusedSimpArgs false

theorem form_cons (n : Nat) : ∃ h t, form n = h :: t ∧ h < 256 := by
  by_cases hn : n < 128
  · exact ⟨n, [], form_small hn, by omega⟩
  · exact ⟨128 + n % 128, form (n / 128), form_big hn, by omega⟩
theorem form_byte : ∀ (n : Nat), ∀ x ∈ form n, x < 256 := by
  intro n
  induction n using Nat.strongRecOn with
  | _ n ih =>
    intro x hx
    by_cases hn : n < 128
    · rw [form_small hn] at hx
      simp at hx
      omega
    · rw [form_big hn] at hx
      rcases List.mem_cons.mp hx with h | h
      · omega
      · exact ih (n / 128) (by omega) x h
theorem form_pre : ∀ (n m : Nat), (form n).take (min (form m).length (form n).length) = (form m).take (min (form m).length (form n).length) → n = m := by
  intro n
  induction n using Nat.strongRecOn with
  | _ n ih =>
    intro m h
    have hp := form_pos n
    have hq := form_pos m
    by_cases hn : n < 128
    · by_cases hm : m < 128
      · rw [form_small hn, form_small hm] at h
        simpa using h
      · rw [form_small hn, form_big hm] at h
        have : min ((128 + m % 128) :: form (m / 128)).length [n].length = 1 := by simp
        rw [this] at h
        simp at h
        omega
    · by_cases hm : m < 128
      · rw [form_big hn, form_small hm] at h
        have : min [m].length ((128 + n % 128) :: form (n / 128)).length = 1 := by simp
        rw [this] at h
        simp at h
        omega
      · rw [form_big hn, form_big hm] at h
        have : min ((128 + m % 128) :: form (m / 128)).length ((128 + n % 128) :: form (n / 128)).length = min (form (m / 128)).length (form (n / 128)).length + 1 := by
          simp only [List.length_cons]
          omega
        rw [this, List.take_succ_cons, List.take_succ_cons] at h
        injection h with h1 h2
        have := ih (n / 128) (by omega) (m / 128) h2
        omega
theorem ofNat_inj : ∀ (l l' : List Nat), (∀ x ∈ l, x < 256) → (∀ x ∈ l', x < 256) → l.map UInt8.ofNat = l'.map UInt8.ofNat → l = l'
  | [], [], _, _, _ => rfl
  | [], _ :: _, _, _, h => by simp at h
  | _ :: _, [], _, _, h => by simp at h
  | a :: l, b :: l', h1, h2, h => by
    simp only [List.map_cons, List.cons.injEq] at h
    have ha := h1 a (by simp)
    have hb := h2 b (by simp)
    have e := congrArg UInt8.toNat h.1
    simp only [UInt8.toNat_ofNat'] at e
    rw [ofNat_inj l l' (fun x hx => h1 x (by simp [hx])) (fun x hx => h2 x (by simp [hx])) h.2]
    congr 1
    omega
theorem strOf_list (l : List Nat) : (strOf l).toList = l.map UInt8.ofNat := by
  rw [ByteArray.toList_eq]
  rfl
theorem strOf_eq {l l' : List Nat} (h1 : ∀ x ∈ l, x < 256) (h2 : ∀ x ∈ l', x < 256) : ((strOf l).toList == (strOf l').toList) = (l == l') := by
  rw [strOf_list, strOf_list]
  rw [Bool.eq_iff_iff]
  simp only [beq_iff_eq]
  exact ⟨ofNat_inj l l' h1 h2, fun h => by rw [h]⟩
theorem cut0 (s : Sl) : (if s.c = 0 then s.a else Option.map (fun x => x.add 0) s.a) = s.a := by
  split
  · rfl
  · cases s.a with
    | none => rfl
    | some p =>
      have e : p.add 0 = p := by
        unfold Addr.add
        split <;> simp_all
      simp only [Option.map_some, e]
theorem min_if (a b : Nat) : (if (a : Int) < b then (a : Int) else b) = ((min a b : Nat) : Int) := by
  split <;> omega

theorem lebapart_spec (n m : Nat) (i : Int) (w : World) (hn : n < 18446744073709551616) (hm : m < 18446744073709551616) (h0 : -9223372036854775808 ≤ i) (h1 : i ≤ 9223372036854775807) :
    Calls Try.prog 4 #[.int .u64 n, .int .u64 m, .int .i64 i] w fun e w' => e = .returned (.bool true) ∧ Ext w w' := by
  refine vc_4 _ _ _ _ _ ?_
  simp only [eq_self, true_and, and_true, decide_eq_true_eq, decide_eq_false_iff_not, gd_st, gd_sf, exists_eq_left', exists_eq_left, Option.some.injEq, Sl.eta, Nat.reduceLeDiff, Int.reduceLE, Int.reduceLT, Int.reduceEq, Int.reduceNe, Nat.reduceMul, Nat.reduceAdd, Nat.reduceSub, Int.toNat_natCast, beq_iff_eq, bne_iff_ne, beq_eq_false_iff_ne, bne_eq_false_iff_eq, pick_and, pick_or, Bool.and_eq_true, Bool.or_eq_true, Bool.and_eq_false_iff, Bool.or_eq_false_iff, ne_eq, not_false_eq_true, Bool.not_eq_true', Bool.not_eq_false', reduceCtorEq, Nat.le_refl, Nat.zero_mul, Nat.mul_one, Nat.zero_add, Int.reduceToNat, ones, one, add_mk, Decidable.not_not, cond_true, cond_false, true_implies, false_implies, implies_true, Bool.not_true, Bool.not_false]
  refine ⟨(shown_spec w).mono ?_⟩
  rintro e w1 ⟨rfl, x1⟩
  refine ⟨_, rfl, fun h => (by simp at h), fun _ => ?_⟩
  refine ⟨(put_spec ⟨none, 0, 0⟩ [] n w1 (Rd.nil _ _ _ _) hn (by decide)).mono ?_⟩
  rintro e w2 ⟨r1, rfl, o1, x2⟩
  refine ⟨r1, rfl, ⟨(put_spec ⟨none, 0, 0⟩ [] m w2 (Rd.nil _ _ _ _) hm (by decide)).mono ?_⟩⟩
  rintro e w3 ⟨r2, rfl, o2, x3⟩
  rw [List.nil_append] at o1 o2
  have hl1 := o1.rd.lenb
  have hl2 := o2.rd.lenb
  have o1' := o1.ext x3
  simp only [min_if, cut0, Int.toNat_natCast]
  have c1 := o1.cap
  have c2 := o2.cap
  have k1 : Rd w3 1 ⟨r1.a, min r2.n r1.n, r1.c⟩ (bv ((form n).take (min r2.n r1.n))) := by
    rw [← bv_take]; exact o1'.rd.take (by omega)
  have k2 : Rd w3 1 ⟨r2.a, min r2.n r1.n, r2.c⟩ (bv ((form m).take (min r2.n r1.n))) := by
    rw [← bv_take]; exact o2.rd.take (by omega)
  refine ⟨r2, rfl, by omega, by omega, _, fun w' q => (k1.ext q.ext).text tab_ok rfl rfl rfl, by omega, by omega, _, fun w' q => (k2.ext q.ext).text tab_ok rfl rfl rfl, ?_⟩
  have key : ((strOf ((form n).take (min r2.n r1.n))).toList == (strOf ((form m).take (min r2.n r1.n))).toList) = ((n : Int) == (m : Int)) := by
    rw [strOf_eq (fun x hx => form_byte n x (List.mem_of_mem_take hx)) (fun x hx => form_byte m x (List.mem_of_mem_take hx))]
    rw [Bool.eq_iff_iff]
    simp only [beq_iff_eq]
    rw [← hl1, ← hl2]
    refine ⟨fun h => by rw [form_pre n m h], fun h => ?_⟩
    have : n = m := by omega
    rw [this]
  have tail : ∀ (v : Int) (w5 : World), Ext w3 w5 → v = ((fold i : Nat) : Int) → ∃ S,
      CallW Try.prog 12 #[.slice none 0 0, .int .i64 i] w5 fun e w6 => ∃ s2 : Sl, e = .returned (.slice s2.a s2.n s2.c) ∧ Upd S w5 w6 ∧ ∃ b2,
        (∀ w' : World, Upd S w6 w' → Runs Try.prog (convert 22 9 (.slice s2.a s2.n s2.c)) w' (.string b2) w') ∧
        CallW Try.prog 11 #[.slice none 0 0, .int .u64 v] w6 fun e w7 => ∃ s3 : Sl, e = .returned (.slice s3.a s3.n s3.c) ∧ Upd S w6 w7 ∧ ∃ b3,
          (∀ w' : World, Upd S w7 w' → Runs Try.prog (convert 22 9 (.slice s3.a s3.n s3.c)) w' (.string b3) w') ∧
          (b2.toList = b3.toList ∧ Ext w5 w7) := by
    rintro v w5 x5 rfl
    refine ⟨fun _ => False, ⟨(putint_spec ⟨none, 0, 0⟩ [] i w5 (Rd.nil _ _ _ _) h0 h1 (by decide)).mono ?_⟩⟩
    rintro e w6 ⟨r3, rfl, o3, x6⟩
    refine ⟨r3, rfl, x6, _, fun w' u => (o3.ext u).rd.text tab_ok rfl rfl rfl, ⟨(put_spec ⟨none, 0, 0⟩ [] _ w6 (Rd.nil _ _ _ _) (fold_lt h0 h1) (by decide)).mono ?_⟩⟩
    rintro e w7 ⟨r4, rfl, o4, x7⟩
    exact ⟨r4, rfl, x7, _, fun w' u => (o4.ext u).rd.text tab_ok rfl rfl rfl, rfl, x6.trans x7⟩
  have rest : ∀ (w5 w7 : World), Ext w3 w5 → Ext w5 w7 → CallW Try.prog 16 #[.int .u64 n] w7 fun e w8 => ∃ k, e = .returned (.int .i64 k) ∧
      ((r1.n : Int) = k → (1 ≤ (r1.n : Int) → Ending.returned (.bool (decide ((r1.n : Int) ≤ 10))) = .returned (.bool true) ∧ Ext w w8) ∧ (¬ 1 ≤ (r1.n : Int) → Ending.returned (.bool false) = .returned (.bool true) ∧ Ext w w8)) ∧
      (¬ (r1.n : Int) = k → Ending.returned (.bool false) = .returned (.bool true) ∧ Ext w w8) := by
    intro w5 w7 x5 x7
    refine ⟨(size_spec n w7 hn).mono ?_⟩
    rintro e w8 ⟨rfl, rfl⟩
    have f1 := form_pos n
    have f2 := form_len n hn
    refine ⟨_, rfl, fun _ => ⟨fun _ => ⟨?_, (((x1.trans x2).trans x3).trans x5).trans x7⟩, fun h => (h (by omega)).elim⟩, fun h => (h (by omega)).elim⟩
    rw [decide_eq_true (by omega)]
  have f0 : ∀ x : Int, shlV .u64 (IntKind.u64.wrap x) 1 = IntKind.u64.wrap (2 * x) := by
    intro x
    unfold shlV
    rw [show (2 : Int) ^ min (1 : Int).toNat IntKind.u64.bits = 2 from rfl, wrap_u64', wrap_u64', wrap_u64']
    omega
  intro w4 q4
  refine ⟨fun hi w5 q5 => ?_, fun hi w5 q5 => ?_⟩
  · obtain ⟨S, h⟩ := tail (IntKind.u64.wrap (IntKind.u64.wrap (0 - shlV IntKind.u64 (IntKind.u64.wrap i) 1) - 1)) w5 (q4.ext.trans q5.ext) (by rw [f0]; unfold fold; simp only [wrap_u64']; split <;> omega)
    refine ⟨S, ⟨h.1.mono ?_⟩⟩
    rintro e w6 ⟨s2, he, u6, b2, hb2, h6⟩
    refine ⟨s2, he, u6, b2, hb2, ⟨h6.1.mono ?_⟩⟩
    rintro e w7 ⟨s3, he3, u7, b3, hb3, hbb, x7⟩
    exact ⟨s3, he3, u7, b3, hb3, fun _ => ⟨fun _ => rest w5 w7 (q4.ext.trans q5.ext) x7, fun h => (h hbb).elim⟩, fun h => (h key).elim⟩
  · obtain ⟨S, h⟩ := tail (shlV IntKind.u64 (IntKind.u64.wrap i) 1) w5 (q4.ext.trans q5.ext) (by rw [f0]; unfold fold; simp only [wrap_u64']; split <;> omega)
    refine ⟨S, ⟨h.1.mono ?_⟩⟩
    rintro e w6 ⟨s2, he, u6, b2, hb2, h6⟩
    refine ⟨s2, he, u6, b2, hb2, ⟨h6.1.mono ?_⟩⟩
    rintro e w7 ⟨s3, he3, u7, b3, hb3, hbb, x7⟩
    exact ⟨s3, he3, u7, b3, hb3, fun _ => ⟨fun _ => rest w5 w7 (q4.ext.trans q5.ext) x7, fun h => (h hbb).elim⟩, fun h => (h key).elim⟩
end Go.Proofs.Ytbkoagepkjpalaa.V
