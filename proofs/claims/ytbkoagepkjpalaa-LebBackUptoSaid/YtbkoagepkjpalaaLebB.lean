/-
  The law LebBack: the walk, of lists that are not too long.
-/
import Derived.Test.YtbkoagepkjpalaaLeb6
import Derived.Test.YtbkoagepkjpalaaLebA
import Derived.Test.YtbkoagepkjpalaaRow
import Derived.Test.YtbkoagepkjpalaaVc5
namespace Go.Proofs.Ytbkoagepkjpalaa.V
open Go Go.RowKit
set_option linter.unusedVariables false
set_option linter.unusedSimpArgs false

theorem parse_of_form (n : Nat) : ∀ (i acc : Nat) (rest : List Nat), n * 128 ^ i < 18446744073709551616 → (0 < i → 0 < n) → parse (form n ++ rest) i acc = some (some (acc + n * 128 ^ i, i + (form n).length)) := by
  induction n using Nat.strongRecOn with
  | _ n ih =>
    intro i acc rest hlt hpos
    by_cases h : n < 128
    · rw [form_small h]
      simp only [List.cons_append, List.nil_append, parse]
      rw [if_neg (by rintro ⟨rfl, h1⟩; omega), if_pos h, if_neg (by omega)]
      rfl
    · rw [form_big h]
      simp only [List.cons_append, parse]
      have h9 : ¬ (i = 9 ∧ 1 < 128 + n % 128) := by rintro ⟨rfl, _⟩; omega
      have e1 : (128 + n % 128) % 128 = n % 128 := by omega
      have e2 : n / 128 * 128 ^ (i + 1) + n % 128 * 128 ^ i = n * 128 ^ i := by
        rw [Nat.pow_succ, Nat.mul_comm (128 ^ i) 128, ← Nat.mul_assoc, ← Nat.add_mul]
        congr 1
        omega
      rw [if_neg h9, if_neg (by omega), ih (n / 128) (by omega) (i + 1) _ rest (by omega) (by omega), e1]
      congr 3
      · omega
      · simp only [List.length_cons]; omega
theorem unfold_fold {n : Int} : unfold_ (fold n) = n := by
  unfold unfold_ fold
  split <;> split <;> omega

def piece (ns : List Nat) (is : List Int) (i : Nat) : List Nat := form (ns.getD i 0) ++ (if i < is.length then form (fold (is.getD i 0)) else [])
def enc (ns : List Nat) (is : List Int) : Nat → List Nat
  | 0 => []
  | k + 1 => enc ns is k ++ piece ns is k
theorem enc_le (ns : List Nat) (is : List Int) : ∀ (N i : Nat), i ≤ N → ∃ rest, enc ns is N = enc ns is i ++ rest
  | 0, i, h => ⟨[], by
    obtain rfl : i = 0 := by omega
    simp⟩
  | N + 1, i, h => by
    rcases Nat.lt_or_ge N i with h' | h'
    · obtain rfl : i = N + 1 := by omega
      exact ⟨[], by simp⟩
    · obtain ⟨r, hr⟩ := enc_le ns is N i h'
      exact ⟨r ++ piece ns is N, by rw [enc, hr, List.append_assoc]⟩
theorem piece_len (ns : List Nat) (is : List Int) (h8 : ∀ x ∈ ns, x < 18446744073709551616) (hi : ∀ x ∈ is, -9223372036854775808 ≤ x ∧ x ≤ 9223372036854775807) (i : Nat) (hl : i < ns.length) : (piece ns is i).length ≤ 20 := by
  unfold piece
  have h1 := form_len (ns.getD i 0) (by rw [List.getD_eq_getElem?_getD, List.getElem?_eq_getElem hl]; exact h8 _ (List.getElem_mem hl))
  split
  · rename_i hlt
    have h2 := hi (is.getD i 0) (by rw [List.getD_eq_getElem?_getD, List.getElem?_eq_getElem hlt]; exact List.getElem_mem hlt)
    have h3 := form_len (fold (is.getD i 0)) (fold_lt h2.1 h2.2)
    rw [List.length_append]; omega
  · rw [List.append_nil]; omega
theorem enc_len (ns : List Nat) (is : List Int) (h8 : ∀ x ∈ ns, x < 18446744073709551616) (hi : ∀ x ∈ is, -9223372036854775808 ≤ x ∧ x ≤ 9223372036854775807) : ∀ k, k ≤ ns.length → (enc ns is k).length ≤ 20 * k
  | 0, _ => by simp [enc]
  | k + 1, h => by
    have h1 := enc_len ns is h8 hi k (by omega)
    have h2 := piece_len ns is h8 hi k (by omega)
    rw [enc, List.length_append]; omega
theorem enc_byte (ns : List Nat) (is : List Int) : ∀ k, ∀ x ∈ enc ns is k, x < 256
  | 0, x, h => by simp [enc] at h
  | k + 1, x, h => by
    rw [enc] at h
    rcases List.mem_append.1 h with h | h
    · exact enc_byte ns is k x h
    · unfold piece at h
      rcases List.mem_append.1 h with h | h
      · exact form_byte _ x h
      · split at h
        · exact form_byte _ x h
        · cases h
theorem uint_of_form (bs pre rest : List Nat) (n : Nat) (hn : n < 18446744073709551616) (h : bs = pre ++ (form n ++ rest)) (most : Nat) (e : Int) (hm : n ≤ most ∨ e = 0) :
    RS.uint bs ⟨pre.length, 0, 0⟩ most e = (n, ⟨pre.length + (form n).length, 0, 0⟩) := by
  unfold RS.uint
  rw [if_neg (by simp)]
  simp only []
  rw [h, List.drop_left, parse_of_form n 0 0 rest (by omega) (by omega)]
  simp only [Nat.pow_zero, Nat.mul_one, Nat.zero_add]
  rw [if_neg (by rintro ⟨h1, h2⟩; rcases hm with h | h; omega; exact h2 h)]

theorem lebback_spec (s t u : Sl) (ns : List Nat) (is : List Int) (bs : List Nat) (w : World) (hs : Rd w 1 s (uv ns)) (ht : Rd w 1 t (iv is)) (hu : Rd w 1 u (bv bs))
    (h8 : ∀ x ∈ ns, x < 18446744073709551616) (hi : ∀ x ∈ is, -9223372036854775808 ≤ x ∧ x ≤ 9223372036854775807) (hb : ∀ x ∈ bs, x < 256) (l0 : s.n ≤ 1048576) (l2 : u.n ≤ 1048576) :
    Calls Try.prog 7 #[.slice s.a s.n s.c, .slice t.a t.n t.c, .slice u.a u.n u.c] w fun e w' => e = .returned (.bool true) ∧ Ext w w' := by
  have hns := hs.lenu
  have his := ht.leni
  have hbl := hu.lenb
  refine vcy_7 s t u _ _ ?_
  simp only [eq_self, true_and, and_true, decide_eq_true_eq, decide_eq_false_iff_not, gd_st, gd_sf, exists_eq_left', exists_eq_left, Option.some.injEq, Sl.eta, Nat.reduceLeDiff, Int.reduceLE, Int.reduceLT, Int.reduceEq, Int.reduceNe, Nat.reduceMul, Nat.reduceAdd, Nat.reduceSub, Int.toNat_natCast, beq_iff_eq, bne_iff_ne, beq_eq_false_iff_ne, bne_eq_false_iff_eq, pick_and, pick_or, Bool.and_eq_true, Bool.or_eq_true, Bool.and_eq_false_iff, Bool.or_eq_false_iff, ne_eq, not_false_eq_true, Bool.not_eq_true', Bool.not_eq_false', reduceCtorEq, Nat.le_refl, Nat.zero_mul, Nat.mul_one, Nat.zero_add, Int.reduceToNat, ones, one, add_mk, Decidable.not_not, cond_true, cond_false, true_implies, false_implies, implies_true, Bool.not_true, Bool.not_false]
  refine ⟨(shown_spec w).mono ?_⟩
  rintro e w1 ⟨rfl, x1⟩
  refine ⟨_, rfl, fun h => by simp at h, fun _ => ?_⟩
  have at0 : ∀ k, k < s.n → ∃ p x, s.a = some p ∧ ns[k]? = some x ∧ x < 18446744073709551616 ∧ w.cell? (p.add k) = some (.int .u64 x) := fun k hk => by
    obtain ⟨p, x, hp, hx, hc⟩ := hs.word k hk
    exact ⟨p, x, hp, hx, h8 x (List.mem_of_getElem? hx), by simpa using hc⟩
  have at1 : ∀ k, k < t.n → ∃ p x, t.a = some p ∧ is[k]? = some x ∧ (-9223372036854775808 ≤ x ∧ x ≤ 9223372036854775807) ∧ w.cell? (p.add k) = some (.int .i64 x) := fun k hk => by
    obtain ⟨p, x, hp, hx, hc⟩ := ht.intl k hk
    exact ⟨p, x, hp, hx, hi x (List.mem_of_getElem? hx), by simpa using hc⟩
  refine ⟨fun sl n w' => ∃ k : Nat, n = k ∧ k ≤ s.n ∧ Rd w' 1 sl (bv (enc ns is k)) ∧ Ext w w', fun _ n _ => (s.n - n).toNat, ⟨0, rfl, by omega, Rd.nil _ _ _ _, x1⟩, ?_⟩
  rintro _ sl n w2 ⟨k, rfl, hk, hr, x2⟩
  have hel := enc_len ns is h8 hi k (by omega)
  have hsl := hr.lenb
  refine ⟨fun hlt => ?_, fun hge => ?_⟩
  · obtain ⟨p, x, hp, hx, hx8, hc⟩ := at0 k (by omega)
    have hgx : ns.getD k 0 = x := by rw [List.getD_eq_getElem?_getD, hx]; rfl
    rw [Int.toNat_natCast]
    refine ⟨by omega, by omega, p, hp, x, x2.cell hc not_false, ⟨(put_spec sl _ x w2 hr hx8 (by omega)).mono ?_⟩⟩
    rintro e w3 ⟨r3, rfl, o3, x3⟩
    have hfl := form_len x hx8
    have h3l := o3.rd.lenb
    rw [List.length_append] at h3l
    refine ⟨r3, rfl, by omega, by omega, p, hp, x, (x2.trans x3).cell hc not_false, ⟨(size_spec x w3 hx8).mono ?_⟩⟩
    rintro e w4 ⟨rfl, rfl⟩
    have x4 : Ext w w4 := (by repeat' (first | assumption | exact Ext.refl _ | refine Ext.trans ?_ (by assumption) | refine Ext.trans ?_ (Qt.ext (by assumption)) | refine Ext.trans ?_ (NewW.ext (by assumption))))
    rw [wrap_i64 (n := (k : Int) + 1) (by omega) (by omega)]
    refine ⟨_, rfl, fun h => by (rw [wrap_i64 (by omega) (by omega)] at h; omega), fun _ => ⟨fun ht1 => ?_, fun ht1 => ⟨⟨k + 1, by push_cast; rfl, by omega, ?_, x4⟩, by dsimp only; omega⟩⟩⟩
    · obtain ⟨q, y, hq, hy, hyb, hyc⟩ := at1 k (by omega)
      have hgy : is.getD k 0 = y := by rw [List.getD_eq_getElem?_getD, hy]; rfl
      refine ⟨by omega, by omega, q, hq, y, x4.cell hyc not_false, ⟨(putint_spec r3 _ y w4 o3.rd hyb.1 hyb.2 (by omega)).mono ?_⟩⟩
      rintro e w5 ⟨r5, rfl, o5, x5⟩
      refine ⟨r5, rfl, ⟨k + 1, by push_cast; rfl, by omega, ?_, x4.trans x5⟩, by dsimp only; omega⟩
      rw [enc, piece, hgx, hgy, if_pos (by omega), ← List.append_assoc]
      exact o5.rd
    · rw [enc, piece, hgx, if_neg (by omega), List.append_nil]
      exact o3.rd
  · obtain rfl : k = s.n := by omega
    intro w3 n3
    have o3 : Own w3 w2.heap.size 5 1 ⟨some ⟨w2.heap.size, 0, none⟩, 0, 0⟩ (bv []) := Own.lit (cs := []) n3 (Nat.le_refl _) rfl (by omega)
    obtain ⟨r4, w4, hap4, hn4, o4, u4, b4⟩ := o3.append (t := 22) (ty := 22) tab_ok rfl rfl (by decide) (hr.ext n3.ext) (bv_ones _) (by simp; omega) (by simp; omega) n3.ext.size
    rw [← bv_append, List.nil_append] at o4
    have x4 : Ext w2 w4 := n3.ext.fresh u4 (by rintro i ⟨p, hp, rfl⟩; exact (o3.base p hp).1)
    obtain ⟨r5, w5, hap5, hn5, o5, u5, b5⟩ := o4.append (t := 22) (ty := 22) tab_ok rfl rfl (by decide) (hu.ext (x2.trans x4)) (bv_ones _) (by simp at hn4; omega) (by simp at hn4; omega) x4.size
    rw [← bv_append] at o5
    have x5 : Ext w2 w5 := x4.fresh u5 (by rintro i ⟨p, hp, rfl⟩; exact (o4.base p hp).1)
    have hl5 := o5.rd.lenb
    rw [List.length_append] at hl5
    refine ⟨r4, w4, hap4, r5, w5, hap5, ⟨(newreader_spec r5 _ w5 o5.rd (by omega) (fun x hx => ?_)).mono ?_⟩⟩
    · rcases List.mem_append.1 hx with h | h
      · exact enc_byte ns is _ x h
      · exact hb x h
    rintro e w6 ⟨g, sg, rfl, k6, x6⟩
    have hg : w.heap.size ≤ g := Nat.le_trans ((x2.trans x5)).size k6.base
    refine ⟨_, rfl, fun h => by simp at h, fun _ => ?_⟩
    have nxt : ∀ {a b : World}, Ext w a → Upd (· = g) a b → Ext w b := fun ha hb => ha.fresh hb (by rintro i rfl; exact hg)
    refine ⟨fun n w' => ∃ k : Nat, n = k ∧ k ≤ s.n ∧ Rdr w' w5.heap.size g (enc ns is s.n ++ bs) ⟨(enc ns is k).length, 0, 0⟩ sg ∧ Ext w w', fun n _ => (s.n - n).toNat, ⟨0, rfl, by omega, k6, (x2.trans x5).trans x6⟩, ?_⟩
    rintro _ n w7 ⟨k, rfl, hk, k7, x7⟩
    refine ⟨fun hlt w8 q8 => ?_, fun hge => ?_⟩
    · have x8 := x7.trans q8.ext
      obtain ⟨p, x, hp, hx, hx8, hc⟩ := at0 k (by omega)
      have hgx : ns.getD k 0 = x := by rw [List.getD_eq_getElem?_getD, hx]; rfl
      obtain ⟨rest, hrest⟩ := enc_le ns is s.n (k + 1) (by omega)
      have hall : enc ns is s.n ++ bs = enc ns is k ++ (form x ++ ((if k < is.length then form (fold (is.getD k 0)) else []) ++ (rest ++ bs))) := by
        rw [hrest, enc, piece, hgx]
        simp only [List.append_assoc]
      have hu8 := uint_of_form _ _ _ x hx8 hall x 5 (.inl (Nat.le_refl _))
      have stay : ∀ {q : Addr} {v : Value}, w.cell? q = some v → ∀ {a : World}, Ext w a → ∀ w', Upd (· = g) a w' → w'.cell? q = some v := fun hh a ha w' u => (nxt ha u).cell hh not_false
      rw [Int.toNat_natCast]
      refine ⟨fun i => i = g, by omega, by omega, p, hp, x, stay hc x8, by omega, by omega, p, hp, x, stay hc x8, ⟨(uint_spec x 5 (k7.ext q8.ext)).mono ?_⟩⟩
      rw [hu8]
      rintro e w9 ⟨rfl, k9, u9⟩
      have x9 := nxt x8 u9
      refine ⟨_, rfl, u9, fun h => (h rfl).elim, fun _ wa qa => ⟨fun i => i = g, fun ht1 => ?_, fun ht1 => ⟨⟨k + 1, by rw [wrap_i64 (by omega) (by omega)]; push_cast; rfl, by omega, ?_, x9.trans qa.ext⟩, by rw [wrap_i64 (by omega) (by omega)]; dsimp only; omega⟩⟩⟩
      · obtain ⟨q, y, hq, hy, hyb, hyc⟩ := at1 k (by omega)
        have hgy : is.getD k 0 = y := by rw [List.getD_eq_getElem?_getD, hy]; rfl
        rw [if_pos (by omega), hgy, ← List.append_assoc] at hall
        have hui := uint_of_form _ _ _ (fold y) (fold_lt hyb.1 hyb.2) hall 0 0 (.inr rfl)
        have hi9 : RS.int (enc ns is s.n ++ bs) ⟨(enc ns is k).length + (form x).length, 0, 0⟩ = (y, ⟨(enc ns is (k + 1)).length, 0, 0⟩) := by
          unfold RS.int
          rw [List.length_append] at hui
          rw [hui, enc, piece, hgx, hgy, if_pos (by omega), unfold_fold]
          simp only [List.length_append]
          rw [Nat.add_assoc]
        refine ⟨by omega, by omega, q, hq, y, stay hyc (x9.trans qa.ext), ⟨(int_spec (k9.ext qa.ext)).mono ?_⟩⟩
        rw [hi9]
        rintro e wb ⟨rfl, kb, ub⟩
        refine ⟨_, rfl, ub, fun h => (h rfl).elim, fun _ => ⟨⟨k + 1, by rw [wrap_i64 (by omega) (by omega)]; push_cast; rfl, by omega, kb, nxt (x9.trans qa.ext) ub⟩, by rw [wrap_i64 (by omega) (by omega)]; dsimp only; omega⟩⟩
      · have e : (enc ns is (k + 1)).length = (enc ns is k).length + (form x).length := by
          rw [enc, piece, hgx, if_neg (by omega), List.append_nil, List.length_append]
        rw [e]
        exact k9.ext qa.ext
    · obtain rfl : k = s.n := by omega
      refine ⟨(fault_spec k7).mono ?_⟩
      rintro e w8 ⟨rfl, q8⟩
      have k8 := k7.ext q8.ext
      refine ⟨_, _, rfl, fun _ => ⟨(at_spec k8).mono ?_⟩, fun h => (h rfl).elim⟩
      rintro e w9 ⟨rfl, q9⟩
      have k9 := k8.ext q9.ext
      refine ⟨_, rfl, fun _ => ⟨(left_spec k9).mono ?_⟩, fun h => (h (by dsimp only; omega)).elim⟩
      rintro e wa ⟨rfl, qa⟩
      refine ⟨_, rfl, ?_, (by repeat' (first | assumption | exact Ext.refl _ | refine Ext.trans ?_ (by assumption) | refine Ext.trans ?_ (Qt.ext (by assumption)) | refine Ext.trans ?_ (NewW.ext (by assumption))))⟩
      rw [List.length_append, hbl]
      have : ((((enc ns is s.n).length + u.n : Nat) : Int) - ((enc ns is s.n).length : Nat)) = (u.n : Int) := by omega
      dsimp only
      rw [this]
      simp
end Go.Proofs.Ytbkoagepkjpalaa.V
