/-
  Package num: digits, and what they tell; the document's examples; the laws that read no text.
-/
import Derived.Test.YtjdiclgnimimnaaDoorNumW
namespace Go.Proofs.YtjdiclgnimimnaaDoor.V
open Go Go.RowKit
set_option linter.unusedVariables false
set_option linter.unusedSimpArgs false

/-! ### the library's variables -/
structure Lay (w : World) : Prop where
  tab : Lib.TabIs Tryd.prog w "internal/strconv.uint64pow10" .u64 Lib.pow10Tab
  syn : ∃ tp p, w.var? Tryd.prog "strconv.ErrSyntax" = some #[.iface tp p]
  ran : ∃ tp p, w.var? Tryd.prog "strconv.ErrRange" = some #[.iface tp p]
theorem var_ext {P : Program} {w w' : World} {name : String} {cs : Array Value} (h : w.var? P name = some cs) (x : Ext w w') : w'.var? P name = some cs := by
  unfold World.var? at h ⊢
  rw [Option.bind_eq_some_iff] at h ⊢
  obtain ⟨g, hg, h⟩ := h
  refine ⟨g, hg, ?_⟩
  have hlt : g < w.heap.size := by
    rcases Nat.lt_or_ge g w.heap.size with h1 | h1
    · exact h1
    · rw [Array.getElem?_eq_none h1] at h; cases h
  rw [x.block g hlt not_false]; exact h
theorem Lay.ext {w w' : World} (h : Lay w) (x : Ext w w') : Lay w' :=
  ⟨var_ext h.tab x, let ⟨tp, p, e⟩ := h.syn; ⟨tp, p, var_ext e x⟩, let ⟨tp, p, e⟩ := h.ran; ⟨tp, p, var_ext e x⟩⟩
theorem below_ext {w w' : World} (h : Below w.heap.size w w') : Ext w w' := ⟨h.os, h.tape, h.output, h.size, fun k hk _ => h.block k hk⟩
theorem grow_ext (w : World) (k : Nat) (os : Array Obj) : Ext w (Sort.grow (w.drewN k) os) :=
  ⟨rfl, rfl, rfl, by show w.heap.size ≤ (w.heap ++ os).size; simp, fun i hi _ => by show (w.heap ++ os)[i]? = w.heap[i]?; rw [Array.getElem?_append_left hi]⟩

def strI (n : Int) : ByteArray := ⟨(Lib.itoa n).toArray⟩
def pint (s : ByteArray) : Int × Bool :=
  match Lib.parseIntB 64 s.data.toList with
  | .ok v => if isN v = true ∧ Lib.itoa v = s.data.toList then (v, true) else (0, false)
  | _ => (0, false)
section
variable {w : World} {R : Ending → World → Prop} {n a b : Int}
theorem c22 (h0 : -9223372036854775808 ≤ n) (h1 : n ≤ 9223372036854775807) (L : Lay w) (h : ∀ w', Ext w w' → R (.returned (.string (strI n))) w') : CallW Tryd.prog 22 #[.int .i64 n] w R := by
  refine ⟨vc_22 _ _ _ ?_⟩
  simp only [eq_self, true_and, and_true, decide_eq_true_eq, decide_eq_false_iff_not, gd_st, gd_sf, exists_eq_left', exists_eq_left, Option.some.injEq, Sl.eta, Nat.reduceLeDiff, Int.reduceLE, Int.reduceLT, Int.reduceEq, Int.reduceNe, Nat.reduceMul, Nat.reduceAdd, Nat.reduceSub, Int.toNat_natCast, beq_iff_eq, bne_iff_ne, beq_eq_false_iff_ne, bne_eq_false_iff_eq, pick_and, pick_or, Bool.and_eq_true, Bool.or_eq_true, Bool.and_eq_false_iff, Bool.or_eq_false_iff, ne_eq, not_false_eq_true, Bool.not_eq_true', Bool.not_eq_false', reduceCtorEq, Nat.le_refl, Nat.zero_mul, Nat.mul_one, Nat.zero_add, Int.reduceToNat, ones, one, add_mk, Decidable.not_not, cond_true, cond_false, true_implies, false_implies, implies_true, Bool.not_true, Bool.not_false]
  refine ⟨(Tryd.strconv_FormatInt_10 n h0 h1 w L.tab).mono ?_⟩
  rintro e w' ⟨rfl, k, os, rfl⟩
  exact ⟨_, rfl, h _ (grow_ext w k os)⟩
theorem c20 {s : ByteArray} (hs : s.size ≤ 281474976710656) (L : Lay w) (h : ∀ w', Ext w w' → R (.returned (.tuple #[.int .i64 (pint s).1, .bool (pint s).2])) w') : CallW Tryd.prog 20 #[.string s] w R := by
  refine ⟨vc_20 _ _ _ ?_⟩
  simp only [eq_self, true_and, and_true, decide_eq_true_eq, decide_eq_false_iff_not, gd_st, gd_sf, exists_eq_left', exists_eq_left, Option.some.injEq, Sl.eta, Nat.reduceLeDiff, Int.reduceLE, Int.reduceLT, Int.reduceEq, Int.reduceNe, Nat.reduceMul, Nat.reduceAdd, Nat.reduceSub, Int.toNat_natCast, beq_iff_eq, bne_iff_ne, beq_eq_false_iff_ne, bne_eq_false_iff_eq, pick_and, pick_or, Bool.and_eq_true, Bool.or_eq_true, Bool.and_eq_false_iff, Bool.or_eq_false_iff, ne_eq, not_false_eq_true, Bool.not_eq_true', Bool.not_eq_false', reduceCtorEq, Nat.le_refl, Nat.zero_mul, Nat.mul_one, Nat.zero_add, Int.reduceToNat, ones, one, add_mk, Decidable.not_not, cond_true, cond_false, true_implies, false_implies, implies_true, Bool.not_true, Bool.not_false]
  unfold pint at h
  cases hp : Lib.parseIntB 64 s.data.toList
  · rename_i v
    rw [hp] at h
    refine ⟨(Tryd.strconv_ParseInt_10_at64_ok s (by omega) v hp w).mono ?_⟩
    rintro e w1 ⟨rfl, hw⟩
    have x1 : Ext w w1 := by
      rcases hw with rfl | ⟨t, rfl⟩
      · exact .refl _
      · exact below_ext (Lib.bytesWorld_below _ _ _)
    have hb := Lib.parseIntB_bounds hp
    refine ⟨_, _, rfl, ⟨.inl rfl⟩, fun _ => c12 ⟨_, rfl, fun hn => c22 (by omega) (by omega) (L.ext x1) fun w2 x2 => ⟨_, rfl, fun hne => ?_, fun he => ?_⟩, fun hn => ?_⟩, fun hn => by cases hn⟩
    · rw [ByteArray.toList_eq, ByteArray.toList_eq] at hne
      have := h w2 (x1.trans x2)
      simp only [] at this
      rw [if_neg (fun hh => hne (by rw [hh.2.symm]; rfl))] at this
      exact this
    · rw [ByteArray.toList_eq, ByteArray.toList_eq] at he
      have := h w2 (x1.trans x2)
      simp only [] at this
      rw [if_pos ⟨hn, by rw [← he]; rfl⟩] at this
      exact this
    · have := h w1 x1
      simp only [] at this
      rw [if_neg (fun hh => by rw [hh.1] at hn; cases hn)] at this
      exact this
  · rw [hp] at h
    obtain ⟨tp, p, hv⟩ := L.syn
    refine ⟨(Tryd.strconv_ParseInt_10_at64_syntax_var s hs (hp.trans (by kernel_rfl)) tp p w hv).mono ?_⟩
    rintro e w1 ⟨N, rfl, _, _, hb⟩
    exact ⟨_, _, rfl, ⟨.inr ⟨_, _, rfl⟩⟩, fun hn => (by cases hn), fun _ => h w1 (below_ext hb)⟩
  · rw [hp] at h
    obtain ⟨tp, p, hv⟩ := L.ran
    refine ⟨(Tryd.strconv_ParseInt_10_at64_range_var s hs hp tp p w hv).mono ?_⟩
    rintro e w1 ⟨N, rfl, _, _, hb⟩
    exact ⟨_, _, rfl, ⟨.inr ⟨_, _, rfl⟩⟩, fun hn => (by cases hn), fun _ => h w1 (below_ext hb)⟩
theorem itoa41 : Lib.itoa (-41) = [45, 52, 49] := by
  rw [show (-41 : Int) = -((41 : Nat) : Int) from rfl, Lib.itoa_neg 41 (by decide), Lib.decDigits_two (by decide) (by decide)]
  rfl
theorem pint41 : pint ⟨#[45, 52, 49]⟩ = (-41, true) := by
  have e : Lib.parseIntB 64 (⟨#[45, 52, 49]⟩ : ByteArray).data.toList = .ok (-41) := by kernel_rfl
  unfold pint
  rw [e]
  simp only []
  rw [if_pos ⟨rfl, itoa41⟩]
theorem c11 (L : Lay w) (h : ∀ w', Ext w w' → R (.returned (.bool true)) w') : CallW Tryd.prog 11 #[] w R := by
  refine ⟨vc_11 _ _ ?_⟩
  simp only [eq_self, true_and, and_true, decide_eq_true_eq, decide_eq_false_iff_not, gd_st, gd_sf, exists_eq_left', exists_eq_left, Option.some.injEq, Sl.eta, Nat.reduceLeDiff, Int.reduceLE, Int.reduceLT, Int.reduceEq, Int.reduceNe, Nat.reduceMul, Nat.reduceAdd, Nat.reduceSub, Int.toNat_natCast, beq_iff_eq, bne_iff_ne, beq_eq_false_iff_ne, bne_eq_false_iff_eq, pick_and, pick_or, Bool.and_eq_true, Bool.or_eq_true, Bool.and_eq_false_iff, Bool.or_eq_false_iff, ne_eq, not_false_eq_true, Bool.not_eq_true', Bool.not_eq_false', reduceCtorEq, Nat.le_refl, Nat.zero_mul, Nat.mul_one, Nat.zero_add, Int.reduceToNat, ones, one, add_mk, Decidable.not_not, cond_true, cond_false, true_implies, false_implies, implies_true, Bool.not_true, Bool.not_false]
  refine c16 ⟨_, _, rfl, c17 ⟨_, _, rfl, c20 (by decide) L fun w1 x1 => ⟨_, _, rfl, c14 ⟨_, rfl, fun _ => c28 ⟨_, rfl, fun _ => c26 ⟨_, rfl, fun _ => ?_, fun h => (h (by decide)).elim⟩, fun h => (h (by decide)).elim⟩, fun h => (h (by decide)).elim⟩⟩⟩⟩
  rw [pint41]
  refine ⟨fun _ => ⟨fun _ => ⟨fun _ => ⟨fun _ => ⟨fun _ => ⟨fun _ => c22 (by decide) (by decide) (L.ext x1) fun w2 x2 => ⟨_, rfl, fun _ => c12 ⟨_, rfl, fun _ => c12 ⟨_, rfl, h w2 (x1.trans x2)⟩, fun h => absurd h (by decide)⟩, fun hne => ?_⟩, fun h => (h rfl).elim⟩, fun h => by cases h⟩,
    fun h => absurd (by decide) h⟩, fun h => absurd (by decide) h⟩, fun h => absurd h (by decide)⟩, fun h => absurd h (by decide)⟩
  exact (hne (by rw [ByteArray.toList_eq, ByteArray.toList_eq]; show Lib.itoa (-41) = _; rw [itoa41])).elim

theorem numwraps_spec (n : Int) (L : Lay w) : Calls Tryd.prog 3 #[.int .i64 n] w fun e w' => e = .returned (.bool true) ∧ Ext w w' := by
  refine vc_3 _ _ _ ?_
  simp only [eq_self, true_and, and_true, decide_eq_true_eq, decide_eq_false_iff_not, gd_st, gd_sf, exists_eq_left', exists_eq_left, Option.some.injEq, Sl.eta, Nat.reduceLeDiff, Int.reduceLE, Int.reduceLT, Int.reduceEq, Int.reduceNe, Nat.reduceMul, Nat.reduceAdd, Nat.reduceSub, Int.toNat_natCast, beq_iff_eq, bne_iff_ne, beq_eq_false_iff_ne, bne_eq_false_iff_eq, pick_and, pick_or, Bool.and_eq_true, Bool.or_eq_true, Bool.and_eq_false_iff, Bool.or_eq_false_iff, ne_eq, not_false_eq_true, Bool.not_eq_true', Bool.not_eq_false', reduceCtorEq, Nat.le_refl, Nat.zero_mul, Nat.mul_one, Nat.zero_add, Int.reduceToNat, ones, one, add_mk, Decidable.not_not, cond_true, cond_false, true_implies, false_implies, implies_true, Bool.not_true, Bool.not_false]
  refine c11 L fun w1 x1 => ⟨_, rfl, fun _ => c12 ⟨_, rfl, c13 ⟨_, rfl, fun _ => c14 ⟨_, rfl, c15 ⟨_, rfl, by simp, x1⟩⟩, fun h => (h rfl).elim⟩⟩, fun h => by cases h⟩
theorem numdivides_spec (a b : Int) (L : Lay w) : Calls Tryd.prog 4 #[.int .i64 a, .int .i64 b] w fun e w' => e = .returned (.bool true) ∧ Ext w w' := by
  refine vc_4 _ _ _ _ ?_
  simp only [eq_self, true_and, and_true, decide_eq_true_eq, decide_eq_false_iff_not, gd_st, gd_sf, exists_eq_left', exists_eq_left, Option.some.injEq, Sl.eta, Nat.reduceLeDiff, Int.reduceLE, Int.reduceLT, Int.reduceEq, Int.reduceNe, Nat.reduceMul, Nat.reduceAdd, Nat.reduceSub, Int.toNat_natCast, beq_iff_eq, bne_iff_ne, beq_eq_false_iff_ne, bne_eq_false_iff_eq, pick_and, pick_or, Bool.and_eq_true, Bool.or_eq_true, Bool.and_eq_false_iff, Bool.or_eq_false_iff, ne_eq, not_false_eq_true, Bool.not_eq_true', Bool.not_eq_false', reduceCtorEq, Nat.le_refl, Nat.zero_mul, Nat.mul_one, Nat.zero_add, Int.reduceToNat, ones, one, add_mk, Decidable.not_not, cond_true, cond_false, true_implies, false_implies, implies_true, Bool.not_true, Bool.not_false]
  refine c11 L fun w1 x1 => ⟨_, rfl, c16 ⟨_, _, rfl, c17 ⟨_, _, rfl, c18 ⟨_, _, rfl, c19 ⟨_, _, rfl, fun _ => ⟨fun _ => ⟨fun _ => ⟨fun _ => ⟨by simp, x1⟩, fun h => (h rfl).elim⟩, fun h => (h rfl).elim⟩, fun h => (h rfl).elim⟩, fun h => by cases h⟩⟩⟩⟩⟩
theorem numreckons_spec (a b : Int) (L : Lay w) : Calls Tryd.prog 8 #[.int .i64 a, .int .i64 b] w fun e w' => e = .returned (.bool true) ∧ Ext w w' := by
  refine vc_8 _ _ _ _ ?_
  simp only [eq_self, true_and, and_true, decide_eq_true_eq, decide_eq_false_iff_not, gd_st, gd_sf, exists_eq_left', exists_eq_left, Option.some.injEq, Sl.eta, Nat.reduceLeDiff, Int.reduceLE, Int.reduceLT, Int.reduceEq, Int.reduceNe, Nat.reduceMul, Nat.reduceAdd, Nat.reduceSub, Int.toNat_natCast, beq_iff_eq, bne_iff_ne, beq_eq_false_iff_ne, bne_eq_false_iff_eq, pick_and, pick_or, Bool.and_eq_true, Bool.or_eq_true, Bool.and_eq_false_iff, Bool.or_eq_false_iff, ne_eq, not_false_eq_true, Bool.not_eq_true', Bool.not_eq_false', reduceCtorEq, Nat.le_refl, Nat.zero_mul, Nat.mul_one, Nat.zero_add, Int.reduceToNat, ones, one, add_mk, Decidable.not_not, cond_true, cond_false, true_implies, false_implies, implies_true, Bool.not_true, Bool.not_false]
  refine c11 L fun w1 x1 => ⟨_, rfl, fun _ => c24 ⟨_, rfl, c25 ⟨_, rfl, fun _ => c26 ⟨_, rfl, c27 ⟨_, rfl, fun _ => c28 ⟨_, rfl, c29 ⟨_, rfl, by simp, x1⟩⟩, fun h => (h rfl).elim⟩⟩, fun h => (h rfl).elim⟩⟩, fun h => by cases h⟩
theorem numwrapped_spec (n : Int) (L : Lay w) : Calls Tryd.prog 7 #[.int .i64 n] w fun e w' => e = .returned (.bool true) ∧ Ext w w' := by
  refine vc_7 _ _ _ ?_
  simp only [eq_self, true_and, and_true, decide_eq_true_eq, decide_eq_false_iff_not, gd_st, gd_sf, exists_eq_left', exists_eq_left, Option.some.injEq, Sl.eta, Nat.reduceLeDiff, Int.reduceLE, Int.reduceLT, Int.reduceEq, Int.reduceNe, Nat.reduceMul, Nat.reduceAdd, Nat.reduceSub, Int.toNat_natCast, beq_iff_eq, bne_iff_ne, beq_eq_false_iff_ne, bne_eq_false_iff_eq, pick_and, pick_or, Bool.and_eq_true, Bool.or_eq_true, Bool.and_eq_false_iff, Bool.or_eq_false_iff, ne_eq, not_false_eq_true, Bool.not_eq_true', Bool.not_eq_false', reduceCtorEq, Nat.le_refl, Nat.zero_mul, Nat.mul_one, Nat.zero_add, Int.reduceToNat, ones, one, add_mk, Decidable.not_not, cond_true, cond_false, true_implies, false_implies, implies_true, Bool.not_true, Bool.not_false]
  refine c11 L fun w1 x1 => ⟨_, rfl, c14 ⟨_, rfl, fun _ => c12 ⟨_, rfl, fun _ => c14 ⟨_, rfl, fun _ => ⟨fun _ => c12 ⟨_, rfl, ?_, x1⟩, fun hne => ?_⟩, fun h => (h (wrp_wrp n)).elim⟩, fun h => by rw [isN_wrp] at h; cases h⟩, fun h => by cases h⟩⟩
  · rw [isN_iff]; by_cases h : wrp n = n <;> simp [h]
  · refine (hne ?_).elim
    unfold shlV
    rw [show min (1 : Int).toNat IntKind.u64.bits = 1 from rfl, show ((2 : Int) ^ 1) = 2 from rfl, wrap_u64', wrap_u64', wrap_i64']
    unfold wrp
    omega
theorem wrp_mul (x y : Int) : wrp (wrp x * y) = wrp (x * y) := by
  obtain ⟨k, hk⟩ := wrp_ex x
  rw [hk, Int.add_mul, Int.mul_assoc, wrp_add]
theorem wrp_mul' (x y : Int) : wrp (x * wrp y) = wrp (x * y) := by rw [Int.mul_comm, wrp_mul, Int.mul_comm]
theorem wrp_plus (x y : Int) : wrp (wrp x + y) = wrp (x + y) := by unfold wrp; omega
theorem wrp_plus' (x y : Int) : wrp (x + wrp y) = wrp (x + y) := by unfold wrp; omega
theorem wrp_minus (x y : Int) : wrp (wrp x - y) = wrp (x - y) := by unfold wrp; omega
theorem wrp_plus_mul (x y : Int) : wrp (wrp (x.tdiv y) * y + x.tmod y) = wrp x := by
  obtain ⟨k, hk⟩ := wrp_ex (x.tdiv y)
  have h := Int.tdiv_mul_add_tmod x y
  rw [hk, Int.add_mul, Int.mul_assoc]
  rw [show x.tdiv y * y + 9223372036854775808 * (k * y) + x.tmod y = x + 9223372036854775808 * (k * y) by omega, wrp_add]
theorem numring_spec (a b c : Int) (L : Lay w) : Calls Tryd.prog 9 #[.int .i64 a, .int .i64 b, .int .i64 c] w fun e w' => e = .returned (.bool true) ∧ Ext w w' := by
  refine vc_9 _ _ _ _ _ ?_
  simp only [eq_self, true_and, and_true, decide_eq_true_eq, decide_eq_false_iff_not, gd_st, gd_sf, exists_eq_left', exists_eq_left, Option.some.injEq, Sl.eta, Nat.reduceLeDiff, Int.reduceLE, Int.reduceLT, Int.reduceEq, Int.reduceNe, Nat.reduceMul, Nat.reduceAdd, Nat.reduceSub, Int.toNat_natCast, beq_iff_eq, bne_iff_ne, beq_eq_false_iff_ne, bne_eq_false_iff_eq, pick_and, pick_or, Bool.and_eq_true, Bool.or_eq_true, Bool.and_eq_false_iff, Bool.or_eq_false_iff, ne_eq, not_false_eq_true, Bool.not_eq_true', Bool.not_eq_false', reduceCtorEq, Nat.le_refl, Nat.zero_mul, Nat.mul_one, Nat.zero_add, Int.reduceToNat, ones, one, add_mk, Decidable.not_not, cond_true, cond_false, true_implies, false_implies, implies_true, Bool.not_true, Bool.not_false]
  have e1 : wrp (a + b) = wrp (b + a) := by rw [Int.add_comm]
  have e2 : wrp (a * b) = wrp (b * a) := by rw [Int.mul_comm]
  have e3 : wrp (wrp (a + b) + c) = wrp (a + wrp (b + c)) := by rw [wrp_plus, wrp_plus', Int.add_assoc]
  have e4 : wrp (wrp (a * b) * c) = wrp (a * wrp (b * c)) := by rw [wrp_mul, wrp_mul', Int.mul_assoc]
  have e5 : wrp (a * wrp (b + c)) = wrp (wrp (a * b) + wrp (a * c)) := by rw [wrp_mul', wrp_plus, wrp_plus', Int.mul_add]
  have e6 : wrp (wrp (a + b) - b) = wrp a := by rw [wrp_minus]; congr 1; omega
  have e7 : wrp (wrp a + wrp b) = wrp (a + b) := by rw [wrp_plus, wrp_plus']
  have e8 : wrp (wrp a * wrp b) = wrp (a * b) := by rw [wrp_mul, wrp_mul']
  refine c11 L fun w1 x1 => ⟨_, rfl, c24 ⟨_, rfl, c28 ⟨_, rfl, fun _ => c12 ⟨_, rfl, fun _ => c12 ⟨_, rfl, fun _ => c24 ⟨_, rfl, fun _ => c28 ⟨_, rfl, fun h => (h e2).elim, fun _ =>
    c24 ⟨_, rfl, c24 ⟨_, rfl, c24 ⟨_, rfl, c28 ⟨_, rfl, c28 ⟨_, rfl, c28 ⟨_, rfl, c24 ⟨_, rfl, c28 ⟨_, rfl, c28 ⟨_, rfl, c24 ⟨_, rfl, c26 ⟨_, rfl, c14 ⟨_, rfl, fun _ => c14 ⟨_, rfl, c14 ⟨_, rfl, c24 ⟨_, rfl, fun _ => c14 ⟨_, rfl, c14 ⟨_, rfl, c28 ⟨_, rfl, fun _ => ⟨fun _ => ⟨fun _ => ⟨?_, x1⟩, fun h => (h e5).elim⟩, fun h => (h e4).elim⟩, fun h => (h e3).elim⟩⟩⟩, fun h => (h e7).elim⟩⟩⟩, fun h => (h e6).elim⟩⟩⟩⟩⟩⟩⟩⟩⟩⟩⟩⟩⟩, fun h => (h e1).elim⟩, fun h => by rw [isN_wrp] at h; cases h⟩, fun h => by rw [isN_wrp] at h; cases h⟩, fun h => by cases h⟩⟩⟩
  rw [e8]; simp
theorem numleft_spec (a b : Int) (L : Lay w) : Calls Tryd.prog 10 #[.int .i64 a, .int .i64 b] w fun e w' => e = .returned (.bool true) ∧ Ext w w' := by
  refine vc_10 _ _ _ _ ?_
  simp only [eq_self, true_and, and_true, decide_eq_true_eq, decide_eq_false_iff_not, gd_st, gd_sf, exists_eq_left', exists_eq_left, Option.some.injEq, Sl.eta, Nat.reduceLeDiff, Int.reduceLE, Int.reduceLT, Int.reduceEq, Int.reduceNe, Nat.reduceMul, Nat.reduceAdd, Nat.reduceSub, Int.toNat_natCast, beq_iff_eq, bne_iff_ne, beq_eq_false_iff_ne, bne_eq_false_iff_eq, pick_and, pick_or, Bool.and_eq_true, Bool.or_eq_true, Bool.and_eq_false_iff, Bool.or_eq_false_iff, ne_eq, not_false_eq_true, Bool.not_eq_true', Bool.not_eq_false', reduceCtorEq, Nat.le_refl, Nat.zero_mul, Nat.mul_one, Nat.zero_add, Int.reduceToNat, ones, one, add_mk, Decidable.not_not, cond_true, cond_false, true_implies, false_implies, implies_true, Bool.not_true, Bool.not_false]
  refine c11 L fun w1 x1 => ⟨_, rfl, fun h => by (cases h), fun _ => c14 ⟨_, rfl, c14 ⟨_, rfl, c16 ⟨_, _, rfl, c17 ⟨_, _, rfl, fun h0 => ?_, fun h0 => ?_⟩⟩⟩⟩⟩
  · rw [divN, remN, if_pos (by rw [wrp_wrp]; exact h0), if_pos (by rw [wrp_wrp]; exact h0)]
    exact ⟨fun _ => ⟨fun _ => ⟨fun _ => ⟨rfl, x1⟩, fun h => (h rfl).elim⟩, fun h => by cases h⟩, fun h => by cases h⟩
  · rw [divN, remN, if_neg (by rw [wrp_wrp]; exact h0), if_neg (by rw [wrp_wrp]; exact h0), wrp_wrp, wrp_wrp]
    have x0 := wrp_lo a
    have x1' := wrp_hi a
    have y0 := wrp_lo b
    have y1 := wrp_hi b
    generalize wrp a = x at *
    generalize wrp b = y at *
    have hr : x.tmod y < (y.natAbs : Int) ∧ -(y.natAbs : Int) < x.tmod y := by
      rw [tmod_abs]
      have := Nat.mod_lt x.natAbs (show 0 < y.natAbs by omega)
      split <;> omega
    have hs : (x.tmod y < 0 → x < 0) ∧ (0 < x.tmod y → ¬ x < 0) := by
      rw [tmod_abs]
      split <;> exact ⟨fun _ => by omega, fun _ => by omega⟩
    have he : wrp (wrp (wrp (x.tdiv y) * y) + x.tmod y) = x := by
      rw [wrp_plus, wrp_plus_mul]
      exact wrp_self x0 x1'
    refine ⟨fun bb w' => w' = w1 ∧ (0 < y → bb = true), ⟨fun h => ⟨rfl, fun hy => ?_⟩, fun h => ⟨rfl, fun hy => ?_⟩⟩, ?_⟩
    · rw [decide_eq_true_eq]; omega
    · rw [wrap_i64 (by omega) (by omega)] at h; omega
    rintro _ b3 w2 ⟨rfl, hb3⟩
    refine ⟨fun bb w' => w' = w2 ∧ bb = true, ⟨fun hy => ⟨fun h => ⟨rfl, ?_⟩, fun h => ?_⟩, fun hy => ⟨rfl, hb3 (by omega)⟩⟩, ?_⟩
    · rw [decide_eq_true_eq, wrap_i64 (by omega) (by omega)]; omega
    · omega
    rintro _ b4 _ ⟨rfl, rfl⟩
    refine ⟨fun _ => ⟨fun _ => c28 ⟨_, rfl, c24 ⟨_, rfl, fun _ => ⟨fun _ => ⟨fun hne => ⟨fun _ => c12 ⟨_, rfl, by rw [isN_wrp], x1⟩, fun hd => ?_⟩, fun _ => c12 ⟨_, rfl, by rw [isN_wrp], x1⟩⟩, fun h => by cases h⟩, fun h => (h he).elim⟩⟩, fun h => by cases h⟩, fun h => by cases h⟩
    exact (hd (by rw [decide_eq_decide]; exact ⟨hs.1, fun hx => by rcases Int.lt_or_gt_of_ne hne with h | h; exact h; exact absurd hx (hs.2 h)⟩)).elim
end
end Go.Proofs.YtjdiclgnimimnaaDoor.V
