/-
  Package num: what digits tell, by the program and by the document.
-/
import Derived.Test.YtjdiclgnimimnaaDoorNumL
import Derived.Test.YtjdiclgnimimnaaDoorText
namespace Go.Proofs.YtjdiclgnimimnaaDoor.V
open Go Go.RowKit
set_option linter.unusedVariables false
set_option linter.unusedSimpArgs false

/-! ### digits -/
abbrev dig (c : UInt8) : Prop := 48 ≤ c.toNat ∧ c.toNat ≤ 57
def val10 (l : List UInt8) : Nat := l.foldl (fun a c => 10 * a + (c.toNat - 48)) 0
theorem val10_snoc (l : List UInt8) (c : UInt8) : val10 (l ++ [c]) = 10 * val10 l + (c.toNat - 48) := by simp [val10]
theorem dd_small {u : Nat} (h : u < 10) : Lib.decDigits u = [UInt8.ofNat (48 + u)] := by rw [Lib.decDigits, dif_pos h]
theorem dd_big {u : Nat} (h : ¬ u < 10) : Lib.decDigits u = Lib.decDigits (u / 10) ++ [UInt8.ofNat (48 + u % 10)] := by rw [Lib.decDigits, dif_neg h]
theorem dig_of {d : Nat} (h : d < 10) : (UInt8.ofNat (48 + d)).toNat = 48 + d := by
  rw [UInt8.toNat_ofNat']; omega
theorem dig_eq {c : UInt8} (h : dig c) : UInt8.ofNat (48 + (c.toNat - 48)) = c := by
  apply UInt8.toNat_inj.1
  rw [dig_of (by omega)]
  omega
theorem dd_dig (u : Nat) : ∀ c ∈ Lib.decDigits u, dig c := by
  induction u using Nat.strongRecOn with
  | _ u ih =>
    intro c hc
    by_cases h : u < 10
    · rw [dd_small h] at hc
      obtain rfl := List.mem_singleton.1 hc
      unfold dig; rw [dig_of h]; omega
    · rw [dd_big h] at hc
      rcases List.mem_append.1 hc with hc | hc
      · exact ih (u / 10) (by omega) c hc
      · obtain rfl := List.mem_singleton.1 hc
        unfold dig; rw [dig_of (by omega)]; omega
theorem dd_val (u : Nat) : val10 (Lib.decDigits u) = u := by
  induction u using Nat.strongRecOn with
  | _ u ih =>
    by_cases h : u < 10
    · rw [dd_small h]
      show 10 * 0 + ((UInt8.ofNat (48 + u)).toNat - 48) = u
      rw [dig_of h]; omega
    · rw [dd_big h, val10_snoc, ih (u / 10) (by omega), dig_of (by omega)]
      omega
theorem dd_ne (u : Nat) : Lib.decDigits u ≠ [] := by
  by_cases h : u < 10
  · rw [dd_small h]; simp
  · rw [dd_big h]; simp
theorem dd_head (u : Nat) (hu : 0 < u) : ∀ c r, Lib.decDigits u = c :: r → c.toNat ≠ 48 := by
  induction u using Nat.strongRecOn with
  | _ u ih =>
    intro c r hc
    by_cases h : u < 10
    · rw [dd_small h] at hc
      injection hc with h1
      rw [← h1, dig_of h]; omega
    · rw [dd_big h] at hc
      cases hd : Lib.decDigits (u / 10) with
      | nil => exact (dd_ne _ hd).elim
      | cons c' r' =>
        rw [hd] at hc
        injection hc with h1
        rw [← h1]
        exact ih (u / 10) (by omega) (by omega) c' r' hd
theorem dd_len (u : Nat) : ∀ k, u < 10 ^ (k + 1) → (Lib.decDigits u).length ≤ k + 1 := by
  intro k
  induction k generalizing u with
  | zero => intro h; rw [dd_small (by simpa using h)]; simp
  | succ k ih =>
    intro h
    by_cases hu : u < 10
    · rw [dd_small hu]; simp
    · rw [dd_big hu, List.length_append]
      have := ih (u / 10) (by rw [Nat.pow_succ] at h; omega)
      simp only [List.length_cons, List.length_nil]
      omega
/-- digits without a nought ahead are the numeral of what they tell -/
theorem dd_of : ∀ (n : Nat) (l : List UInt8), l.length = n + 1 → (∀ c ∈ l, dig c) → (∀ c r, l = c :: r → c.toNat = 48 → r = []) → Lib.decDigits (val10 l) = l := by
  intro n
  induction n with
  | zero =>
    intro l hl hd _
    obtain ⟨c, rfl⟩ := List.length_eq_one_iff.1 hl
    have hc := hd c (by simp)
    have e : val10 [c] = c.toNat - 48 := by show 10 * 0 + _ = _; omega
    have : dig c := hc
    unfold dig at this
    rw [e, dd_small (by omega), dig_eq hc]
  | succ n ih =>
    intro l hl hd hh
    obtain ⟨l', c, rfl⟩ : ∃ l' c, l = l' ++ [c] := by
      rcases List.eq_nil_or_concat l with h | ⟨l', c, h⟩
      · rw [h] at hl; simp at hl
      · exact ⟨l', c, by simpa using h⟩
    have hl' : l'.length = n + 1 := by simpa using hl
    have hc : dig c := hd c (by simp)
    have ih' := ih l' hl' (fun x hx => hd x (by simp [hx])) (fun x r he h48 => by
      have := hh x (r ++ [c]) (by rw [he]; rfl) h48
      simp at this)
    have hpos : 0 < val10 l' := by
      rcases Nat.eq_zero_or_pos (val10 l') with h0 | h0
      · rw [h0] at ih'
        rw [dd_small (by decide)] at ih'
        have := hh 48 ([] ++ [c]) (by rw [← ih']; rfl) rfl
        simp at this
      · exact h0
    have hcd : 48 ≤ c.toNat ∧ c.toNat ≤ 57 := hc
    rw [val10_snoc, dd_big (by omega), show (10 * val10 l' + (c.toNat - 48)) / 10 = val10 l' by omega, ih', show (10 * val10 l' + (c.toNat - 48)) % 10 = c.toNat - 48 by omega, dig_eq hc]
theorem val10_lt_ : ∀ (n : Nat) (l : List UInt8), l.length = n → (∀ c ∈ l, dig c) → val10 l < 10 ^ n := by
  intro n
  induction n with
  | zero =>
    intro l hl _
    obtain rfl := List.eq_nil_of_length_eq_zero hl
    decide
  | succ n ih =>
    intro l hl h
    rcases List.eq_nil_or_concat l with h' | ⟨l', c, h'⟩
    · rw [h'] at hl; simp at hl
    · rw [List.concat_eq_append] at h'
      rw [h'] at hl h ⊢
      have := ih l' (by simpa using hl) (fun x hx => h x (by simp [hx]))
      have hc : 48 ≤ c.toNat ∧ c.toNat ≤ 57 := h c (by simp)
      rw [val10_snoc, Nat.pow_succ]
      omega
theorem val10_lt (l : List UInt8) (h : ∀ c ∈ l, dig c) : val10 l < 10 ^ l.length := val10_lt_ _ l rfl h
theorem itoa_inj {v n : Int} (h : Lib.itoa v = Lib.itoa n) : v = n := by
  unfold Lib.itoa at h
  have neg : ∀ (a b : Nat), 45 :: Lib.decDigits a ≠ Lib.decDigits b := by
    intro a b he
    have := dd_dig b 45 (by rw [← he]; simp)
    exact absurd this (by decide)
  split at h <;> split at h
  · injection h with _ h
    have := congrArg val10 h
    rw [dd_val, dd_val] at this
    omega
  · exact (neg _ _ h).elim
  · exact (neg _ _ h.symm).elim
  · have := congrArg val10 h
    rw [dd_val, dd_val] at this
    omega

/-! ### what a text tells -/
theorem parseM_snoc (M : Nat) : ∀ (l : List UInt8) (acc : Nat) (c : UInt8), Lib.parseUintM M acc (l ++ [c]) = match Lib.parseUintM M acc l with
    | .ok a => Lib.parseUintM M a [c]
    | x => x
  | [], _, _ => rfl
  | x :: l, acc, c => by
    simp only [List.cons_append, Lib.parseUintM]
    split
    · split
      · rfl
      · split
        · rfl
        · exact parseM_snoc M l _ c
    · rfl
theorem parseM_dd (u : Nat) (h : u < 9223372036854775809) : Lib.parseUintM 18446744073709551615 0 (Lib.decDigits u) = .ok u := by
  induction u using Nat.strongRecOn with
  | _ u ih =>
    by_cases hu : u < 10
    · rw [dd_small hu]
      have e := dig_of hu
      simp only [Lib.parseUintM]
      rw [e, if_pos (by omega), if_neg (by omega), if_neg (by omega)]
      congr 1
      omega
    · rw [dd_big hu, parseM_snoc, ih (u / 10) (by omega) (by omega)]
      have e := dig_of (show u % 10 < 10 by omega)
      simp only [Lib.parseUintM]
      rw [e, if_pos (by omega), if_neg (by omega), if_neg (by omega)]
      congr 1
      omega
theorem parse_itoa {v : Int} (hv : isN v = true) : Lib.parseIntB 64 (Lib.itoa v) = .ok v := by
  have h0 : -4611686018427387904 ≤ v ∧ v ≤ 4611686018427387903 := by simpa [isN] using hv
  have pu : ∀ u, u < 9223372036854775809 → Lib.parseUintB 64 (Lib.decDigits u) = .ok u := fun u hu => by
    unfold Lib.parseUintB
    rw [if_neg (dd_ne u), show 2 ^ 64 - 1 = 18446744073709551615 from rfl, parseM_dd u hu]
  unfold Lib.itoa
  split
  · rename_i hn
    rw [Lib.parseIntB_minus, pu _ (by omega), show 2 ^ (64 - 1) = 9223372036854775808 from rfl]
    unfold Lib.signedC
    simp only []
    rw [if_neg (by omega)]
    congr 1
    omega
  · rename_i hn
    cases hd : Lib.decDigits v.toNat with
    | nil => exact (dd_ne _ hd).elim
    | cons c r =>
      have hc : 48 ≤ c.toNat ∧ c.toNat ≤ 57 := dd_dig v.toNat c (by rw [hd]; simp)
      rw [Lib.parseIntB_plain _ _ _ (by omega) (by omega), ← hd, pu _ (by omega), show 2 ^ (64 - 1) = 9223372036854775808 from rfl]
      unfold Lib.signlessC
      simp only []
      rw [if_neg (by omega)]
      congr 1
      omega
theorem pint_some {s : ByteArray} {v : Int} (hv : isN v = true) (h : Lib.itoa v = s.data.toList) : pint s = (v, true) := by
  unfold pint
  rw [← h, parse_itoa hv]
  simp only []
  rw [if_pos ⟨hv, trivial⟩]
theorem pint_none {s : ByteArray} (h : ∀ v, isN v = true → Lib.itoa v ≠ s.data.toList) : pint s = (0, false) := by
  unfold pint
  split
  · rename_i v _
    rw [if_neg (fun hh => h v hh.1 hh.2)]
  · rfl
theorem str_at (s : ByteArray) (k : Nat) (hk : k < s.size) : ∃ b, s[k]? = some b ∧ s.data.toList[k]? = some b := by
  refine ⟨s[k], getElem?_pos s k hk, ?_⟩
  have hk' : k < s.data.size := hk
  rw [Array.getElem?_toList, Array.getElem?_eq_getElem hk']
  rfl
section
variable {w : World} {R : Ending → World → Prop} {n : Int}
theorem c21 {s : ByteArray} (hs : s.size ≤ 281474976710656) (h : R (.returned (.tuple #[.int .i64 (pint s).1, .bool (pint s).2])) w) : CallW Tryd.prog 21 #[.string s] w R := by
  refine ⟨vc_21 _ _ _ ?_⟩
  simp only [eq_self, true_and, and_true, decide_eq_true_eq, decide_eq_false_iff_not, gd_st, gd_sf, exists_eq_left', exists_eq_left, Option.some.injEq, Sl.eta, Nat.reduceLeDiff, Int.reduceLE, Int.reduceLT, Int.reduceEq, Int.reduceNe, Nat.reduceMul, Nat.reduceAdd, Nat.reduceSub, Int.toNat_natCast, beq_iff_eq, bne_iff_ne, beq_eq_false_iff_ne, bne_eq_false_iff_eq, pick_and, pick_or, Bool.and_eq_true, Bool.or_eq_true, Bool.and_eq_false_iff, Bool.or_eq_false_iff, ne_eq, not_false_eq_true, Bool.not_eq_true', Bool.not_eq_false', reduceCtorEq, Nat.le_refl, Nat.zero_mul, Nat.mul_one, Nat.zero_add, Int.reduceToNat, ones, one, add_mk, Decidable.not_not, cond_true, cond_false, true_implies, false_implies, implies_true, Bool.not_true, Bool.not_false]
  have hlen : s.data.toList.length = s.size := by rw [Array.length_toList]; rfl
  have no : (∀ v, isN v = true → Lib.itoa v ≠ s.data.toList) → R (.returned (.tuple #[.int .i64 0, .bool false])) w := fun hn => by
    rw [pint_none hn] at h; exact h
  have yes : ∀ v, isN v = true → Lib.itoa v = s.data.toList → R (.returned (.tuple #[.int .i64 v, .bool true])) w := fun v hv he => by
    rw [pint_some hv he] at h; exact h
  have hat := str_at s
  generalize s.data.toList = l at *
  clear h
  refine ⟨fun n w' => w' = w ∧ ((n = 1 ∧ ∃ ds, l = 45 :: ds) ∨ (n = 0 ∧ ∀ ds, l ≠ 45 :: ds)), ⟨fun h0 => ?_, fun h0 => ⟨rfl, .inr ⟨rfl, fun ds he => by rw [he] at hlen; simp at hlen; omega⟩⟩⟩, ?_⟩
  · obtain ⟨b, hb, hb'⟩ := hat 0 (by omega)
    refine ⟨b, hb, fun h45 => ⟨rfl, .inl ⟨rfl, ?_⟩⟩, fun h45 => ⟨rfl, .inr ⟨rfl, fun ds he => ?_⟩⟩⟩
    · cases l with
      | nil => simp at hb'
      | cons c ds =>
        simp at hb'
        refine ⟨ds, ?_⟩
        rw [hb', show b = 45 from UInt8.toNat_inj.1 (by show b.toNat = 45; omega)]
    · rw [he] at hb'
      simp at hb'
      rw [← hb'] at h45
      exact h45 rfl
  rintro _ n w1 ⟨rfl, hcase⟩
  obtain ⟨i, hi, hisz, ds, hn, hds, hF⟩ : ∃ (i : Nat) (_ : i ≤ 1) (_ : i ≤ s.size) (ds : List UInt8), n = i ∧ l.drop i = ds ∧ ∀ v, isN v = true → Lib.itoa v = l → ∃ u : Nat, ds = Lib.decDigits u ∧ ((i = 1 ∧ 0 < u ∧ v = -(u : Int) ∧ u ≤ 4611686018427387904) ∨ (i = 0 ∧ v = u ∧ u ≤ 4611686018427387903)) := by
    rcases hcase with ⟨rfl, ds, he⟩ | ⟨rfl, hne⟩
    · refine ⟨1, by omega, by rw [← hlen, he]; simp, ds, rfl, by rw [he]; rfl, fun v hv hit => ?_⟩
      have hv' : -4611686018427387904 ≤ v ∧ v ≤ 4611686018427387903 := by simpa [isN] using hv
      unfold Lib.itoa at hit
      split at hit
      · rw [he] at hit
        injection hit with _ hit
        exact ⟨v.natAbs, hit.symm, .inl ⟨rfl, by omega, by omega, by omega⟩⟩
      · have := dd_dig v.toNat 45 (by rw [hit, he]; simp)
        exact absurd this (by decide)
    · refine ⟨0, by omega, by omega, l, rfl, rfl, fun v hv hit => ?_⟩
      have hv' : -4611686018427387904 ≤ v ∧ v ≤ 4611686018427387903 := by simpa [isN] using hv
      unfold Lib.itoa at hit
      split at hit
      · exact (hne _ hit.symm).elim
      · exact ⟨v.toNat, hit.symm, .inr ⟨rfl, by omega, by omega⟩⟩
  have hit : (i = 1 → ∀ u, ds = Lib.decDigits u → 0 < u → Lib.itoa (-(u : Int)) = l) ∧ (i = 0 → ∀ u, ds = Lib.decDigits u → Lib.itoa (u : Int) = l) := by
    rcases hcase with ⟨hn1, ds', he⟩ | ⟨hn0, hne⟩
    · refine ⟨fun _ u hu h0 => ?_, fun h0 => by omega⟩
      rw [Lib.itoa_neg u h0, ← hu, ← hds, he, show i = 1 by omega]; rfl
    · refine ⟨fun h1 => by omega, fun _ u hu => ?_⟩
      rw [Lib.itoa_nonneg, ← hu, ← hds, show i = 0 by omega]; rfl
  subst hn
  clear hcase
  have hdl : ds.length = s.size - i := by rw [← hds, List.length_drop, hlen]
  have hdg : ∀ j, ds[j]? = l[i + j]? := fun j => by rw [← hds, List.getElem?_drop]
  -- a text that is told: its digits
  have told : ∀ v, isN v = true → Lib.itoa v = l → ds ≠ [] ∧ ds.length ≤ 19 ∧ (∀ c ∈ ds, dig c) ∧ (∀ c r, ds = c :: r → c.toNat = 48 → r = [] ∧ i = 0) ∧ val10 ds ≤ 4611686018427387904 ∧ (i = 0 → val10 ds ≤ 4611686018427387903) := by
    intro v hv he
    obtain ⟨u, hu, hc⟩ := hF v hv he
    have hu2 : u ≤ 4611686018427387904 := by rcases hc with hc | hc <;> omega
    rw [hu]
    refine ⟨dd_ne u, dd_len u 18 (by omega), dd_dig u, fun c r hcr h48 => ?_, by rw [dd_val]; omega, fun h0 => by rw [dd_val]; omega⟩
    rcases Nat.eq_zero_or_pos u with h0 | h0
    · subst h0
      rw [dd_small (by decide)] at hcr
      injection hcr with _ hcr
      exact ⟨hcr.symm, by omega⟩
    · exact absurd h48 (dd_head u h0 c r hcr)
  refine ⟨fun w' => w' = w1 ∧ ds.length ≤ 19 ∧ 0 < ds.length ∧ ∀ c r, ds = c :: r → c.toNat = 48 → r = [] ∧ i = 0, ⟨fun hne => ?_, fun heq => no fun v hv he => ?_⟩, ?_⟩
  · obtain ⟨b, hb, hb'⟩ := hat i (by omega)
    have hh := hdg 0
    rw [Nat.add_zero, hb'] at hh
    have hcons : ∃ r, ds = b :: r := by
      cases hd : ds with
      | nil => rw [hd] at hh; simp at hh
      | cons c r => rw [hd] at hh; simp at hh; exact ⟨r, by rw [hh]⟩
    obtain ⟨r, hr⟩ := hcons
    have hrl : ds.length = r.length + 1 := by rw [hr]; rfl
    rw [Int.toNat_natCast, wrap_i64 (by omega) (by omega)]
    have long : 19 < (s.size : Int) - i → R (.returned (.tuple #[.int .i64 0, .bool false])) w1 := fun h19 => no fun v hv he => by
      have := (told v hv he).2.1; omega
    refine ⟨by omega, b, hb, fun h48 => ⟨fun h1 => ⟨long, fun h19 => ⟨rfl, by omega, by omega, fun c r' hcr hc => ?_⟩⟩, fun h1 => no fun v hv he => ?_⟩, fun h48 => ⟨long, fun h19 => ⟨rfl, by omega, by omega, fun c r' hcr hc => ?_⟩⟩⟩
    · rw [hr] at hcr
      injection hcr with _ hcr
      have : r.length = 0 := by omega
      exact ⟨by rw [← hcr]; exact List.eq_nil_of_length_eq_zero this, by omega⟩
    · obtain ⟨_, _, _, hz, _⟩ := told v hv he
      have := hz b r hr (by omega)
      rw [this.1] at hrl
      simp at hrl
      omega
    · rw [hr] at hcr
      injection hcr with h1 _
      rw [← h1] at hc
      omega
  · have := (told v hv he).1
    apply this
    apply List.eq_nil_of_length_eq_zero
    omega
  rintro _ w2 ⟨rfl, hl19, hl0, hz⟩
  refine ⟨fun x k w' => w' = w2 ∧ ∃ j : Nat, k = i + j ∧ j ≤ ds.length ∧ x = (val10 (ds.take j) : Nat) ∧ ∀ c ∈ ds.take j, dig c, fun _ k _ => (s.size - k).toNat, ⟨rfl, 0, by omega, by omega, rfl, by simp⟩, ?_⟩
  rintro _ x k w3 ⟨rfl, j, rfl, hj, rfl, hdig⟩
  have hvl := val10_lt _ hdig
  have htl : (ds.take j).length = j := by rw [List.length_take]; omega
  rw [htl] at hvl
  have hp19 : 10 ^ j ≤ 10 ^ 19 := Nat.pow_le_pow_right (by decide) (by omega)
  refine ⟨fun hlt => ?_, fun hge => ?_⟩
  · obtain ⟨b, hb, hb'⟩ := hat (i + j) (by omega)
    have hd := hdg j
    rw [hb'] at hd
    have hmem : b ∈ ds := List.mem_of_getElem? hd
    have bad : ¬ dig b → R (.returned (.tuple #[.int .i64 0, .bool false])) w3 := fun hnd => no fun v hv he => hnd ((told v hv he).2.2.1 b hmem)
    rw [show ((i : Int) + (j : Int)).toNat = i + j by omega]
    refine ⟨by omega, b, hb, fun h48 => ⟨by omega, b, hb, fun h57 => bad (by unfold dig; omega), fun h57 => ⟨by omega, b, hb, ?_, ?_⟩⟩, fun h48 => bad (by unfold dig; omega)⟩
    · have hj1 : j < ds.length := by omega
      have hp18 : 10 ^ j ≤ 10 ^ 18 := Nat.pow_le_pow_right (by decide) (by omega)
      refine ⟨rfl, j + 1, by rw [wrap_i64 (by omega) (by omega)]; push_cast; omega, by omega, ?_, ?_⟩
      · rw [List.take_add_one, hd]
        simp only [Option.toList_some]
        rw [val10_snoc, wrap_u8', wrap_u64 (n := 10 * _) (by omega) (by omega), wrap_u64 (n := ((b.toNat : Int) - 48) % 256) (by omega) (by omega), wrap_u64 (by omega) (by omega)]
        have := b.toNat_lt
        omega
      · intro c hc
        rw [List.take_add_one, hd] at hc
        simp only [Option.toList_some] at hc
        rcases List.mem_append.1 hc with hc | hc
        · exact hdig c hc
        · obtain rfl := List.mem_singleton.1 hc
          unfold dig; omega
    · rw [wrap_i64 (by omega) (by omega)]
      dsimp only
      omega
  · obtain rfl : j = ds.length := by omega
    rw [List.take_length] at hdig hvl ⊢
    have hdd := dd_of (ds.length - 1) ds (by omega) hdig (fun c r h1 h2 => (hz c r h1 h2).1)
    have hvl2 : val10 ds < 10000000000000000000 := by omega
    refine ⟨fun b w' => w' = w3 ∧ b = (decide (i = 0) && decide (val10 ds ≤ 4611686018427387903)), ⟨fun h0 => ⟨rfl, ?_⟩, fun h0 => ⟨rfl, ?_⟩⟩, ?_⟩
    · rw [show i = 0 by omega]
      simp only [decide_true, Bool.true_and, decide_eq_decide]
      omega
    · rw [decide_eq_false (show ¬ i = 0 by omega), Bool.false_and]
    rintro _ b w4 ⟨rfl, hb⟩
    refine ⟨fun hbt => ?_, fun hbf => ⟨fun h1 => ⟨fun hle => ?_, fun hgt => no fun v hv he => ?_⟩, fun h1 => no fun v hv he => ?_⟩⟩
    · rw [hbt] at hb
      simp only [Bool.true_eq, Bool.and_eq_true, decide_eq_true_eq] at hb
      rw [wrap_i64 (by omega) (by omega)]
      exact yes _ (by simp [isN]; omega) (hit.2 hb.1 _ hdd.symm)
    · have hpos : 0 < val10 ds := by
        rcases Nat.eq_zero_or_pos (val10 ds) with h0 | h0
        · rw [h0, dd_small (by decide)] at hdd
          have := (hz 48 [] hdd.symm rfl).2
          omega
        · exact h0
      rw [wrap_i64 (n := ((val10 ds : Nat) : Int)) (by omega) (by omega), wrap_i64 (by omega) (by omega), Int.zero_sub]
      exact yes _ (by simp [isN]; omega) (hit.1 (by omega) _ hdd.symm hpos)
    · have := (told v hv he).2.2.2.2.1
      omega
    · have := (told v hv he).2.2.2.2.2 (by omega)
      rw [hbf, show i = 0 by omega] at hb
      simp only [decide_true, Bool.true_and, Bool.false_eq, decide_eq_false_iff_not] at hb
      omega
end
end Go.Proofs.YtjdiclgnimimnaaDoor.V
