/-
  The heap: Collect, of the program and of the document.
-/
import Derived.Test.YtggpomialmpgoaaHp2
import Derived.Test.YtggpomialmpgoaaCm1
namespace Go.Proofs.Ytggpomialmpgoaa.V
open Go Go.RowKit
set_option linter.unusedVariables false
set_option linter.unusedSimpArgs false
set_option maxRecDepth 100000

def okR (A : Ar) (ls : List Nat) : Bool := ls.all fun r => decide (r = 0) || (headT A r).isSome
theorem okR_snoc {A : Ar} {ls : List Nat} {y : Nat} : okR A (ls ++ [y]) = (okR A ls && (decide (y = 0) || (headT A y).isSome)) := by unfold okR; simp [List.all_append]
theorem okR_bad {A : Ar} {ls : List Nat} {y : Nat} (h : y ∈ ls) (h0 : y ≠ 0) (h1 : (headT A y).isSome = false) : okR A ls = false := by
  unfold okR
  rw [← Bool.not_eq_true]
  intro hh
  have := List.all_eq_true.1 hh y h
  rw [h1, decide_eq_false h0] at this
  cases this
def colT (H : Hp) (ls : List Nat) : Hp :=
  { H with A := (collectT H.A ls H.zero).1, fresh := true, co := IntKind.i64.wrap (H.co + 1), cp := IntKind.i64.wrap (H.cp + ((collectT H.A ls H.zero).1.use.e - (collectT H.A ls H.zero).1.use.f : Nat)) }
section
variable {w : World} {x b g r B : Nat} {fs l : Sl} {H : Hp} {ls : List Nat}
theorem collectH_spec (h : HpW w x b g r H) (ho : H.A.opn = false) (hl : Rd w 1 l (uv ls)) (hlo : ∀ q, l.a = some q → q.block ≠ b ∧ q.block ≠ g ∧ q.block < w.heap.size) (hlt : ∀ y ∈ ls, y < 18446744073709551616) (hm : ls.length ≤ 17592186043905) :
    Calls Try.prog 12 #[.pointer (some ⟨x, 0, none⟩), .slice l.a l.n l.c] w fun e' w' =>
      (okR H.A ls = false ∧ e' = .returned (.tuple #[.slice none 0 0, .int .i64 20]) ∧ Ext w w') ∨
      (okR H.A ls = true ∧ ∃ nb, e' = .returned (.tuple #[.slice (some ⟨nb, 0, none⟩) ls.length ls.length, .int .i64 (collectT H.A ls H.zero).2.2]) ∧ HpW w' x b g r (colT H ls) ∧ Blk w' nb 35 (uv (collectT H.A ls H.zero).2.1) ∧ w.heap.size ≤ nb ∧ Upd (fun k => k = b ∨ k = g ∨ k = x) w w') := by
  refine vc_12 _ _ _ _ ?_
  have lt := h.lt; have ap := h.ap; have ln := hl.lenu
  simp only [eq_self, false_or, or_false, true_and, and_true, decide_eq_true_eq, decide_eq_false_iff_not, gd_st, gd_sf, exists_eq_left', exists_eq_left, Option.some.injEq, Sl.eta, Nat.reduceLeDiff, Int.reduceLE, Int.reduceLT, Int.reduceEq, Int.reduceNe, Nat.reduceMul, Nat.reduceAdd, Nat.reduceSub, Int.toNat_natCast, beq_iff_eq, bne_iff_ne, beq_eq_false_iff_ne, bne_eq_false_iff_eq, pick_and, pick_or, Bool.and_eq_true, Bool.or_eq_true, Bool.and_eq_false_iff, Bool.or_eq_false_iff, ne_eq, not_false_eq_true, Bool.not_eq_true', Bool.not_eq_false', reduceCtorEq, Nat.le_refl, Nat.zero_mul, Nat.mul_one, Nat.zero_add, Int.reduceToNat, ones, one, add_mk, Decidable.not_not, cond_true, cond_false, true_implies, false_implies, implies_true, Bool.not_true, Bool.not_false]
  intro w1 n1
  have z1 := n1.size
  have R1 := Blk.new n1
  refine ⟨l, R1.cell 0, fun i w' => ∃ k : Nat, i = (k : Nat) ∧ k ≤ ls.length ∧ okR H.A (ls.take k) = true ∧ Ext w1 w', fun i _ => (ls.length - i).toNat, ⟨0, rfl, Nat.zero_le _, rfl, Ext.refl _⟩, ?_⟩
  rintro _ i w2 ⟨k, rfl, hk, hok, x2⟩
  have x02 := n1.ext.trans x2
  have h2 := h.ext x02
  have z2 := x2.size
  have ei : IntKind.i64.wrap ((k : Int) + 1) = ((k + 1 : Nat) : Int) := by rw [wrap_i64 (by omega) (by omega)]; omega
  rw [ei]
  refine ⟨fun hlt' => ?_, fun hge => ?_⟩
  · obtain ⟨p, y, hp, hy, hcy⟩ := (hl.ext x02).word k (by omega)
    rw [Nat.mul_one] at hcy
    have hym := List.mem_of_getElem? hy
    refine ⟨by omega, by omega, p, hp, _, by rw [Int.toNat_natCast]; exact hcy, _, h2.hd.cell 0, ⟨(header_spec h2.ar (hlt y hym)).mono ?_⟩⟩
    rintro e w3 ⟨rfl, x3⟩
    refine ⟨_, _, _, _, _, rfl, fun w4 n4 => ⟨rfl, HB.can n4, fun w5 s5 => ?_⟩⟩
    obtain ⟨hb5, x35⟩ := HB.made (h := (headT H.A y).getD hd0) n4 s5
    have x15 := (x2.trans x3).trans x35
    refine ⟨fun hn => ⟨fun hy0 => .inl ⟨okR_bad hym (by omega) hn, n1.ext.trans x15⟩, fun hy0 => ⟨⟨k + 1, rfl, by omega, ?_, x15⟩, by dsimp only; omega⟩⟩, fun hn => ⟨⟨k + 1, rfl, by omega, ?_, x15⟩, by dsimp only; omega⟩⟩
    · rw [take_snoc hy, okR_snoc, hok, show decide (y = 0) = true from decide_eq_true (by omega)]; rfl
    · rw [take_snoc hy, okR_snoc, hok, hn]; simp
  · rw [List.take_of_length_le (by omega)] at hok
    refine ⟨l, (R1.ext x2).cell 0, ⟨by omega, by omega, by omega, by omega⟩, fun w3 n3 w4 n4 => ⟨(Blk.new n4).canSet 0 (by simp), fun w5 s5 w6 q6 => ?_⟩⟩
    have z3 := n3.size; have z4 := n4.size; have z5 := s5.size
    have N5 := s5.blk1 (Blk.new n4)
    simp only [List.set] at N5
    have x35 : Ext w3 w5 := n4.ext.fresh s5.upd (by rintro i rfl; exact Nat.le_refl _)
    have x26 := (n3.ext.trans x35).trans q6.ext
    have x06 := x02.trans x26
    have z26 := x26.size
    have h6 := h.ext x06
    have nb6 := ((Blk.new n3).ext x35).ext q6.ext
    rw [zrow_one, ← ln] at nb6
    have nb6' : Blk w6 w2.heap.size 35 (uv (List.replicate ls.length 0)) := by
      have e : List.replicate ls.length (Value.int .u64 0) = uv (List.replicate ls.length 0) := by simp [uv]
      rw [← e]; exact nb6
    have N6 := N5.ext q6.ext
    rw [← ln] at N6
    have R6 := (R1.ext x2).ext x26
    refine ⟨fun _ => False, _, fun v u => (h6.hd.ext u).cell 0, _, fun v u => (h6.hd.ext u).cell 2, ⟨(collect_spec h6.ar ho R6 (hl.ext x06) N6 nb6' (fun q hq => by have := hlo q hq; omega) (by omega) hlt (by omega) H.zero).mono ?_⟩⟩
    rintro e w7 ⟨rfl, a7, nb7, u7⟩
    have z7 := u7.size
    have hd7 := h6.hd.upd u7 (by omega)
    have m7 := h6.mp.upd u7 (by omega)
    have N7 := N6.upd u7 (by have := N6.ne h6.ar.ws (by decide); have := N6.ne h6.ar.hd (by decide); omega)
    refine ⟨_, _, rfl, _, hd7.cell 5, hd7.canSet 5 (by simp), fun w8 s8 => ?_⟩
    have s8' : SetW w7 ⟨x, 5, none⟩ [.int .i64 (IntKind.i64.wrap (H.co + 1))] w8 := s8
    have hd8 := s8'.blk1 hd7
    refine ⟨_, hd8.cell 6, hd8.canSet 6 (by simp), fun w9 s9 => ?_⟩
    have s9' : SetW w8 ⟨x, 6, none⟩ [.int .i64 (IntKind.i64.wrap (H.cp + ((collectT H.A ls H.zero).1.use.e - (collectT H.A ls H.zero).1.use.f : Nat)))] w9 := s9
    have hd9 := s9'.blk1 hd8
    refine ⟨hd9.canSet 3 (by simp), fun w10 s10 => ?_⟩
    have s10' : SetW w9 ⟨x, 3, none⟩ [.bool true] w10 := s10
    have hd10 := s10'.blk1 hd9
    have u8 : Upd (fun i => i = x) w7 w8 := s8'.upd
    have u9 : Upd (fun i => i = x) w8 w9 := s9'.upd
    have u10 : Upd (fun i => i = x) w9 w10 := s10'.upd
    have U10 : Upd (fun i => i = x) w7 w10 := (u8.trans u9 fun _ _ hn => ⟨hn, hn⟩).trans u10 fun _ _ hn => ⟨hn, hn⟩
    refine ⟨⟨some ⟨w2.heap.size, 0, none⟩, ls.length, ls.length⟩, (N7.upd U10 (by omega)).cell 0, .inr ⟨hok, w2.heap.size, rfl, ⟨a7.upd U10 (by omega) (by omega), hd10, m7.upd U10 (by omega)⟩, nb7.upd U10 (by omega), by omega, ?_⟩⟩
    refine (x06.toS.trans u7 fun i hi hn => ⟨hn, fun e => hn (by omega)⟩).trans U10 fun i _ hn => ⟨hn, fun e => hn (by omega)⟩
theorem rcollectH_spec0 (h : RpW w x b g B fs H) (ho : H.A.opn = false) (hl : Rd w 1 l (uv ls)) (hlo : 0 < l.n → ∀ q, l.a = some q → q.block ≠ b ∧ q.block ≠ g) (hlt : ∀ y ∈ ls, y < 18446744073709551616) (hm : ls.length ≤ 17592186043905) :
    Calls Try.prog 58 #[.pointer (some ⟨x, 0, none⟩), .slice l.a l.n l.c] w fun e' w' =>
      (okR H.A ls = false ∧ e' = .returned (.tuple #[.slice none 0 0, .int .i64 20]) ∧ Ext w w') ∨
      (okR H.A ls = true ∧ ∃ s, e' = .returned (.tuple #[.slice s.a s.n s.c, .int .i64 (collectT H.A ls H.zero).2.2]) ∧ RpW w' x b g B fs (colT H ls) ∧ Own w' w.heap.size 35 1 s (uv (collectT H.A ls H.zero).2.1) ∧ Upd (fun k => k = b ∨ k = g ∨ k = x) w w') := by
  refine vc_58 _ _ _ _ ?_
  have lt := h.lt; have ap := h.ap; have ln := hl.lenu
  simp only [eq_self, false_or, or_false, true_and, and_true, decide_eq_true_eq, decide_eq_false_iff_not, gd_st, gd_sf, exists_eq_left', exists_eq_left, Option.some.injEq, Sl.eta, Nat.reduceLeDiff, Int.reduceLE, Int.reduceLT, Int.reduceEq, Int.reduceNe, Nat.reduceMul, Nat.reduceAdd, Nat.reduceSub, Int.toNat_natCast, beq_iff_eq, bne_iff_ne, beq_eq_false_iff_ne, bne_eq_false_iff_eq, pick_and, pick_or, Bool.and_eq_true, Bool.or_eq_true, Bool.and_eq_false_iff, Bool.or_eq_false_iff, ne_eq, not_false_eq_true, Bool.not_eq_true', Bool.not_eq_false', reduceCtorEq, Nat.le_refl, Nat.zero_mul, Nat.mul_one, Nat.zero_add, Int.reduceToNat, ones, one, add_mk, Decidable.not_not, cond_true, cond_false, true_implies, false_implies, implies_true, Bool.not_true, Bool.not_false]
  refine ⟨fun i w' => ∃ k : Nat, i = (k : Nat) ∧ k ≤ ls.length ∧ okR H.A (ls.take k) = true ∧ Ext w w', fun i _ => (ls.length - i).toNat, ⟨0, rfl, Nat.zero_le _, rfl, Ext.refl _⟩, ?_⟩
  rintro _ i w2 ⟨k, rfl, hk, hok, x2⟩
  have h2 := h.ext x2
  have z2 := x2.size
  have ei : IntKind.i64.wrap ((k : Int) + 1) = ((k + 1 : Nat) : Int) := by rw [wrap_i64 (by omega) (by omega)]; omega
  rw [ei]
  refine ⟨fun hlt' => ?_, fun hge w3 q3 => ?_⟩
  · obtain ⟨p, y, hp, hy, hcy⟩ := (hl.ext x2).word k (by omega)
    have hym := List.mem_of_getElem? hy
    have cy : ∀ {v : World}, Ext w2 v → v.cell? (p.add k) = some (.int .u64 (y : Nat)) := fun x' => by
      obtain ⟨p', y', hp', hy', hc'⟩ := (hl.ext (x2.trans x')).word k (by omega)
      rw [hp] at hp'; injection hp' with hp'; subst hp'
      rw [hy] at hy'; injection hy' with hy'; subst hy'
      rw [Nat.mul_one] at hc'; exact hc'
    refine ⟨fun bb w' => bb = (headT H.A y).isSome ∧ Ext w2 w', fun w3 q3 => ?_, ?_⟩
    · have x3 := q3.ext
      have h3 := h2.ext x3
      have z3 := x3.size
      refine ⟨fun k => w3.heap.size ≤ k, _, fun v u => (h3.hd.upd u (by omega)).cell 0, by omega, by omega, p, hp, ((y : Nat) : Int), fun v u => ?_, ⟨(rheader_spec h3.ar (hlt y hym)).mono ?_⟩, fun w4 n4 => ⟨n4.ext.toS, ⟨(rheader_spec (h3.ext n4.ext).ar (hlt y hym)).mono ?_⟩⟩⟩
      · rw [Int.toNat_natCast]
        exact cy (x3.trans ((Ext.refl w3).fresh u fun _ h => h))
      · rintro e w4 ⟨rfl, x4⟩
        have z4 := x4.size
        refine ⟨_, _, _, _, _, rfl, x4.toS, fun w5 n5 => ⟨n5.ext.toS, rfl, HB.can n5, fun w6 s6 => ⟨s6.upd.mono fun i _ hn e => hn (by dsimp only at e; omega), rfl, ?_⟩⟩⟩
        obtain ⟨_, y6⟩ := HB.made (h := (headT H.A y).getD hd0) n5 s6
        exact (x3.trans x4).trans y6
      · rintro e w5 ⟨rfl, x5⟩
        have b5 := (Blk.new n4).ext x5
        refine ⟨_, _, _, _, _, rfl, x5.toS, rfl, b5.canSetN 0 4 (by simp), fun w6 s6 => ⟨s6.upd.mono fun i _ hn e => hn (by dsimp only at e; omega), rfl, ?_⟩⟩
        exact x3.trans ((n4.ext.trans x5).fresh s6.upd (by rintro i rfl; exact Nat.le_refl _))
    rintro _ bb w3 ⟨rfl, x3⟩
    refine ⟨by omega, by omega, p, hp, _, by rw [Int.toNat_natCast]; exact cy x3, fun hy0 => ⟨fun hn => .inl ⟨okR_bad hym (by omega) hn, x2.trans x3⟩, fun hn => ⟨⟨k + 1, rfl, by omega, ?_, x2.trans x3⟩, by dsimp only; omega⟩⟩, fun hy0 => ⟨⟨k + 1, rfl, by omega, ?_, x2.trans x3⟩, by dsimp only; omega⟩⟩
    · rw [take_snoc hy, okR_snoc, hok, hn]; simp
    · rw [take_snoc hy, okR_snoc, hok, show decide (y = 0) = true from decide_eq_true (by omega)]; rfl
  · rw [List.take_of_length_le (by omega)] at hok
    have x03 := x2.trans q3.ext
    have h3 := h.ext x03
    have z3 := x03.size
    refine ⟨fun _ => False, _, fun v u => (h3.hd.ext u).cell 0, _, fun v u => (h3.hd.ext u).cell 2, ⟨(rcollect_spec h3.ar ho (hl.ext x03) (fun hn q hq e => by have := hlo hn q hq; omega) hlt hm H.zero).mono ?_⟩⟩
    rintro e w7 ⟨s, rfl, a7, o7, u7⟩
    have z7 := u7.size
    have hf := ap.2.2.2
    have hd7 := h3.hd.upd u7 (by omega)
    have m7 := h3.fo.upd u7 (fun q hq e => by have := hf q hq; omega)
    refine ⟨s, _, _, rfl, _, hd7.cell 5, hd7.canSet 5 (by simp), fun w8 s8 => ?_⟩
    have s8' : SetW w7 ⟨x, 5, none⟩ [.int .i64 (IntKind.i64.wrap (H.co + 1))] w8 := s8
    have hd8 := s8'.blk1 hd7
    refine ⟨_, hd8.cell 6, hd8.canSet 6 (by simp), fun w9 s9 => ?_⟩
    have s9' : SetW w8 ⟨x, 6, none⟩ [.int .i64 (IntKind.i64.wrap (H.cp + ((collectT H.A ls H.zero).1.use.e - (collectT H.A ls H.zero).1.use.f : Nat)))] w9 := s9
    have hd9 := s9'.blk1 hd8
    refine ⟨hd9.canSet 3 (by simp), fun w10 s10 => ?_⟩
    have s10' : SetW w9 ⟨x, 3, none⟩ [.bool true] w10 := s10
    have hd10 := s10'.blk1 hd9
    have u8 : Upd (fun i => i = x) w7 w8 := s8'.upd
    have u9 : Upd (fun i => i = x) w8 w9 := s9'.upd
    have u10 : Upd (fun i => i = x) w9 w10 := s10'.upd
    have U10 : Upd (fun i => i = x) w7 w10 := (u8.trans u9 fun _ _ hn => ⟨hn, hn⟩).trans u10 fun _ _ hn => ⟨hn, hn⟩
    refine .inr ⟨hok, s, rfl, ⟨a7.upd U10 (by omega) (by omega), hd10, m7.upd U10 (fun q hq e => by have := hf q hq; omega)⟩, (o7.upd U10 (fun q hq e => by have := o7.base q hq; omega)).mono z3, ?_⟩
    exact (x03.toS.trans u7 fun i hi hn => ⟨hn, fun e => hn (by omega)⟩).trans U10 fun i _ hn => ⟨hn, fun e => hn (by omega)⟩
theorem rcollectH_spec (h : RpW w x b g B fs H) (ho : H.A.opn = false) (hl : Rd w 1 l (uv ls)) (hlo : ∀ q, l.a = some q → q.block ≠ b ∧ q.block ≠ g) (hlt : ∀ y ∈ ls, y < 18446744073709551616) (hm : ls.length ≤ 17592186043905) :
    Calls Try.prog 58 #[.pointer (some ⟨x, 0, none⟩), .slice l.a l.n l.c] w fun e' w' =>
      (okR H.A ls = false ∧ e' = .returned (.tuple #[.slice none 0 0, .int .i64 20]) ∧ Ext w w') ∨
      (okR H.A ls = true ∧ ∃ s, e' = .returned (.tuple #[.slice s.a s.n s.c, .int .i64 (collectT H.A ls H.zero).2.2]) ∧ RpW w' x b g B fs (colT H ls) ∧ Own w' w.heap.size 35 1 s (uv (collectT H.A ls H.zero).2.1) ∧ Upd (fun k => k = b ∨ k = g ∨ k = x) w w') :=
  rcollectH_spec0 h ho hl (fun _ => hlo) hlt hm
end
end Go.Proofs.Ytggpomialmpgoaa.V
