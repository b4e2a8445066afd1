/-
  Text of a frame; what must be in any case.
-/
import Derived.Test.YtfppdkkbekkhbaaDoorFa3
namespace Go.Proofs.YtfppdkkbekkhbaaDoor.V
open Go Go.RowKit
set_option linter.unusedVariables false
set_option linter.unusedSimpArgs false
set_option maxRecDepth 100000

/-- a slot as it is written -/
def slotB (x : Int) : ByteArray := if x = -1 then ⟨#[45]⟩ else ⟨(Lib.itoa x).toArray⟩
/-- Itoa answers, in every world to come -/
def Itoas (w : World) (xs : List Int) : Prop := ∀ x ∈ xs, x ≠ -1 → ∀ w', Ext w w' → Calls Tryd.prog 53 #[.int .i64 x] w' fun e w'' => e = .returned (.string (slotB x)) ∧ Ext w' w''
theorem Itoas.ext {w w' : World} {xs : List Int} (h : Itoas w xs) (x : Ext w w') : Itoas w' xs := fun y hy hne w2 x2 => h y hy hne w2 (x.trans x2)
theorem itoas_small {w : World} {xs : List Int} (h : ∀ x ∈ xs, x = -1 ∨ (0 ≤ x ∧ x < 100)) : Itoas w xs := by
  intro x hx hne w' _
  rcases h x hx with h1 | ⟨h1, h2⟩
  · exact absurd h1 hne
  obtain ⟨n, rfl⟩ : ∃ n : Nat, x = n := ⟨x.toNat, by omega⟩
  refine (Tryd.strconv_Itoa_small n (by omega) w').mono ?_
  rintro e w2 ⟨rfl, rfl⟩
  refine ⟨?_, Ext.refl _⟩
  unfold slotB Lib.itoa
  rw [if_neg hne, if_neg (by omega), Int.toNat_natCast]
theorem push1s {w w1 : World} {B : Nat} {x : ByteArray} {c : Sl} {xs : List ByteArray} (o : Own w B 9 1 c (sv xs)) (hB : B ≤ w.heap.size) (hl : xs.length ≤ 8796093022200) (n1 : NewW w (.cells #[.string x] 9) w1) :
    ∃ c' w', Runs Tryd.prog (Builtin.append_ #[52, 52] 52 #[.slice c.a c.n c.c, .slice (some ⟨w.heap.size, 0, none⟩) 1 1]) w1 (.slice c'.a c'.n c'.c) w' ∧ Own w' B 9 1 c' (sv (xs ++ [x])) ∧ Upd (fun k => ∃ q, c.a = some q ∧ k = q.block) w w' := by
  have hn := o.rd.lens
  have rd : Rd w1 1 ⟨some ⟨w.heap.size, 0, none⟩, 1, 1⟩ (sv [x]) := (Blk.new n1).rd (z := 1) (o := 0) (n := 1) (c := 1) (by simp)
  obtain ⟨c', w', hr, hcn, o', u', hcase⟩ := (o.ext n1.ext).append (t := 52) (ty := 52) tab_ok (by rfl) (by rfl) (by decide) rd (sv_ones _) (by dsimp only; omega) (by dsimp only; omega) (by have := n1.ext.size; omega)
  exact ⟨c', w', hr, by rw [sv_append]; exact o', n1.ext.toS.trans u' fun i hi hn => ⟨hn, hn⟩⟩
section
variable {w : World} {a f0 f1 : Sl} {xs ys : List Int}
theorem words_spec (ha : Rd w 1 a (iv xs)) (hI : Itoas w xs) (hm : xs.length ≤ 8796093022000) :
    Calls Tryd.prog 35 #[.slice a.a a.n a.c] w fun e w' => ∃ s : Sl, e = .returned (.slice s.a s.n s.c) ∧ Own w' w.heap.size 9 1 s (sv (xs.map slotB)) ∧ Ext w w' := by
  refine vc_35 _ _ _ ?_
  have la := ha.leni
  simp only [eq_self, false_or, or_false, true_and, and_true, decide_eq_true_eq, decide_eq_false_iff_not, gd_st, gd_sf, exists_eq_left', exists_eq_left, Option.some.injEq, Sl.eta, Nat.reduceLeDiff, Int.reduceLE, Int.reduceLT, Int.reduceEq, Int.reduceNe, Nat.reduceMul, Nat.reduceAdd, Nat.reduceSub, Int.toNat_natCast, beq_iff_eq, bne_iff_ne, beq_eq_false_iff_ne, bne_eq_false_iff_eq, pick_and, pick_or, Bool.and_eq_true, Bool.or_eq_true, Bool.and_eq_false_iff, Bool.or_eq_false_iff, ne_eq, not_false_eq_true, Bool.not_eq_true', Bool.not_eq_false', reduceCtorEq, Nat.le_refl, Nat.zero_mul, Nat.mul_one, Nat.zero_add, Int.reduceToNat, ones, one, add_mk, Decidable.not_not, cond_true, cond_false, true_implies, false_implies, implies_true, Bool.not_true, Bool.not_false]
  refine ⟨fun s n w' => ∃ i : Nat, n = i ∧ i ≤ a.n ∧ Own w' w.heap.size 9 1 s (sv ((xs.take i).map slotB)) ∧ Ext w w', fun _ n _ => (a.n - n).toNat, ⟨0, rfl, Nat.zero_le _, Own.nil _ _ _ _, Ext.refl w⟩, ?_⟩
  rintro _ s n w1 ⟨i, rfl, hi, o1, x1⟩
  refine ⟨fun hlt => ?_, fun hge => ⟨s, rfl, by rw [List.take_of_length_le (by omega)] at o1; exact o1, x1⟩⟩
  obtain ⟨p, x, hp, hx, hcx⟩ := (ha.ext x1).intl i (by omega)
  rw [Nat.mul_one] at hcx
  have ei : IntKind.i64.wrap ((i : Int) + 1) = ((i + 1 : Nat) : Int) := by rw [wrap_i64 (by omega) (by omega)]; omega
  rw [Int.toNat_natCast, ei]
  have tl : ((xs.take i).map slotB).length ≤ 8796093022200 := by rw [List.length_map, List.length_take]; omega
  refine ⟨by omega, hlt, p, hp, _, hcx, fun he w2 n2 => ?_, fun hne => ⟨(hI x (List.mem_of_getElem? hx) hne w1 x1).mono ?_⟩⟩
  · obtain ⟨c', w3, hr, o3, u3⟩ := push1s o1 x1.size tl n2
    refine ⟨c', w3, hr, ⟨i + 1, rfl, by omega, ?_, x1.fresh u3 (by rintro j ⟨q, hq, rfl⟩; exact (o1.base q hq).1)⟩, by dsimp only; omega⟩
    have e : slotB x = ⟨#[45]⟩ := by unfold slotB; rw [if_pos he]
    rw [take_snoc hx, List.map_append, List.map_singleton, e]
    exact o3
  · rintro e w2 ⟨rfl, x2⟩
    refine ⟨_, rfl, fun w3 n3 => ?_⟩
    have o2 := o1.ext x2
    have x12 := x1.trans x2
    obtain ⟨c', w4, hr, o4, u4⟩ := push1s o2 x12.size tl n3
    refine ⟨c', w4, hr, ⟨i + 1, rfl, by omega, ?_, x12.fresh u4 (by rintro j ⟨q, hq, rfl⟩; exact (o2.base q hq).1)⟩, by dsimp only; omega⟩
    rw [take_snoc hx, List.map_append, List.map_singleton]
    exact o4
/-- a frame's words, and its text -/
def wordsT (xs ys : List Int) : List ByteArray := xs.map slotB ++ [⟨#[124]⟩] ++ ys.map slotB
def textT (xs ys : List Int) : List UInt8 := Lib.join ((wordsT xs ys).map (·.data.toList)) [32]
theorem text_spec (h : Fr2 w f0 f1 xs ys) (hI : Itoas w xs) (hJ : Itoas w ys) (hm : xs.length + ys.length ≤ 4000000000000) (ht : (textT xs ys).length ≤ 140737488355328) :
    Calls Tryd.prog 18 #[frV f0 f1] w fun e w' => e = .returned (.string ⟨(textT xs ys).toArray⟩) ∧ Ext w w' := by
  refine vc_18 _ _ _ _ ?_
  have l0 := h.a.leni; have l1 := h.b.leni
  simp only [eq_self, false_or, or_false, true_and, and_true, decide_eq_true_eq, decide_eq_false_iff_not, gd_st, gd_sf, exists_eq_left', exists_eq_left, Option.some.injEq, Sl.eta, Nat.reduceLeDiff, Int.reduceLE, Int.reduceLT, Int.reduceEq, Int.reduceNe, Nat.reduceMul, Nat.reduceAdd, Nat.reduceSub, Int.toNat_natCast, beq_iff_eq, bne_iff_ne, beq_eq_false_iff_ne, bne_eq_false_iff_eq, pick_and, pick_or, Bool.and_eq_true, Bool.or_eq_true, Bool.and_eq_false_iff, Bool.or_eq_false_iff, ne_eq, not_false_eq_true, Bool.not_eq_true', Bool.not_eq_false', reduceCtorEq, Nat.le_refl, Nat.zero_mul, Nat.mul_one, Nat.zero_add, Int.reduceToNat, ones, one, add_mk, Decidable.not_not, cond_true, cond_false, true_implies, false_implies, implies_true, Bool.not_true, Bool.not_false]
  intro w1 n1 w2 q2
  have x2 := n1.ext.trans q2.ext
  have f2 : FB w2 w.heap.size f0 f1 := (Blk.new n1).ext q2.ext
  have hm0 : xs.length ≤ 8796093022000 := by omega
  have hm1 : ys.length ≤ 8796093022000 := by omega
  obtain ⟨w0, hw0⟩ : ∃ w0, w0 = w := ⟨_, rfl⟩
  have fin : ∀ {v : World} {s t : Sl} {g : Nat}, Ext w v → Own v w.heap.size 9 1 s (sv (xs.map slotB)) → Own v w.heap.size 9 1 t (sv (ys.map slotB)) → Blk v g 9 [.string ⟨#[124]⟩] →
      2 ≤ len' (wr (rep [Value.slice none 0 0] 3) 0 (.slice s.a s.n s.c)) ∧ 3 ≤ len' (wr (wr (rep [Value.slice none 0 0] 3) 0 (.slice s.a s.n s.c)) 1 (.slice (some ⟨g, 0, none⟩) 1 1)) ∧
      ∀ v', NewW v (.cells #[.slice s.a s.n s.c, .slice (some ⟨g, 0, none⟩) 1 1, .slice t.a t.n t.c] 52) v' → Upd (fun _ => False) v v' ∧
        CallW Tryd.prog 34 #[.slice (some ⟨v.heap.size, 0, none⟩) 3 3] v' fun e w => ∃ s : Sl, e = .returned (.slice s.a s.n s.c) ∧ Upd (fun _ => False) v' w ∧
          CallW Tryd.prog 33 #[.slice s.a s.n s.c, .string { data := #[32] }] w fun e w_2 => ∃ b, e = .returned (.string b) ∧ Upd (fun _ => False) w w_2 ∧ Ending.returned (.string b) = .returned (.string ⟨(textT xs ys).toArray⟩) ∧ Ext w0 w_2 := by
    intro v s t g xv os ot hb
    refine ⟨by simp [len', wr, rep], by simp [len', wr, rep], fun v1 m1 => ⟨m1.ext, ?_⟩⟩
    have ls := os.rd.lens; have lt := ot.rd.lens
    rw [List.length_map] at ls lt
    have hs : Rd v1 1 ⟨some ⟨v.heap.size, 0, none⟩, 3, 3⟩ (slV [s, ⟨some ⟨g, 0, none⟩, 1, 1⟩, t]) := (Blk.new m1).rd (z := 1) (o := 0) (n := 3) (c := 3) (by simp)
    have hbr : Rd v1 1 ⟨some ⟨g, 0, none⟩, 1, 1⟩ (sv [⟨#[124]⟩]) := (hb.ext m1.ext).rd (z := 1) (o := 0) (n := 1) (c := 1) (by simp)
    refine ⟨(concatS_spec (Vs := [sv (xs.map slotB), sv [⟨#[124]⟩], sv (ys.map slotB)]) hs ?_ rfl (by simp [sumN]; omega) (by simp)).mono ?_⟩
    · intro k c hc
      match k, hc with
      | 0, hc => injection hc with hc; subst hc; exact ⟨_, rfl, (os.ext m1.ext).rd, sv_ones _⟩
      | 1, hc => injection hc with hc; subst hc; exact ⟨_, rfl, hbr, sv_ones _⟩
      | 2, hc => injection hc with hc; subst hc; exact ⟨_, rfl, (ot.ext m1.ext).rd, sv_ones _⟩
      | k + 3, hc => exact absurd hc (by simp)
    · rintro e v2 ⟨r, rfl, or, x2⟩
      have hfl : [sv (xs.map slotB), sv [⟨#[124]⟩], sv (ys.map slotB)].flatten = sv (wordsT xs ys) := by
        unfold wordsT
        rw [sv_append, sv_append]; simp
      rw [hfl] at or
      have lr := or.rd.lens
      have hwl : (wordsT xs ys).length = xs.length + 1 + ys.length := by simp [wordsT]; omega
      obtain ⟨p, hp, hcells⟩ := or.rd.2 (by omega)
      obtain ⟨g', cs, ha, _, hbk, hnc, _⟩ := or.blk (by rw [hp]; simp)
      refine ⟨r, rfl, x2, ?_⟩
      have hj := Tryd.strings_Join g' 0 r.c (wordsT xs ys) ⟨#[32]⟩ v2 (fun j x hx => by
        rw [ha] at hp; injection hp with hp; subst hp
        have := hcells j (.string x) (by unfold sv; rw [List.getElem?_map, hx]; rfl)
        rw [add_mk] at this; exact this) hbk.lt (by omega) (by omega) ht
      rw [lr, ← ha] at hj
      refine ⟨hj.mono ?_⟩
      rintro e v3 ⟨rfl, b3⟩
      exact ⟨_, rfl, below_ext b3, rfl, by rw [hw0]; exact ((xv.trans m1.ext).trans x2).trans (below_ext b3)⟩
  rw [hw0] at fin
  have xm : ∀ {v v' : World} {s : Sl} {vs : List Value} {B : Nat}, w.heap.size ≤ B → Own v B 9 1 s vs → Ext v v' → Own v' w.heap.size 9 1 s vs := fun hB o x => (o.ext x).mono hB
  refine ⟨fun _ => False, f0, fun w' u => (f2.ext u).cell 0, f1, fun w' u => (f2.ext u).cell 1, ⟨⟨(words_spec (h.a.ext x2) (hI.ext x2) hm0).mono ?_⟩, fun w3 n3 => ⟨n3.ext, ⟨(words_spec (h.a.ext (x2.trans n3.ext)) (hI.ext (x2.trans n3.ext)) hm0).mono ?_⟩⟩⟩⟩
  · rintro e w3 ⟨s, rfl, o3, x3⟩
    have x23 := x2.trans x3
    refine ⟨s, rfl, x3, fun w4 n4 => ⟨n4.ext, ⟨(words_spec (h.b.ext (x23.trans n4.ext)) (hJ.ext (x23.trans n4.ext)) hm1).mono ?_⟩⟩, ⟨(words_spec (h.b.ext x23) (hJ.ext x23) hm1).mono ?_⟩⟩
    · rintro e w5 ⟨t, rfl, o5, x5⟩
      exact ⟨t, rfl, x5, fin ((x23.trans n4.ext).trans x5) (xm x2.size o3 (n4.ext.trans x5)) (xm (x23.trans n4.ext).size o5 (Ext.refl _)) ((Blk.new n4).ext x5)⟩
    · rintro e w4 ⟨t, rfl, o4, x4⟩
      refine ⟨t, rfl, x4, fun w5 n5 => ⟨n5.ext, fin ((x23.trans x4).trans n5.ext) (xm x2.size o3 (x4.trans n5.ext)) (xm x23.size o4 n5.ext) (Blk.new n5)⟩⟩
  · rintro e w4 ⟨s, rfl, o4, x4⟩
    have x24 := (x2.trans n3.ext).trans x4
    refine ⟨s, rfl, x4, ⟨(words_spec (h.b.ext x24) (hJ.ext x24) hm1).mono ?_⟩⟩
    rintro e w5 ⟨t, rfl, o5, x5⟩
    exact ⟨t, rfl, x5, fin (x24.trans x5) (xm (x2.trans n3.ext).size o4 x5) (xm x24.size o5 (Ext.refl _)) ((Blk.new n3).ext (x4.trans x5))⟩
end
/-! ### the document's example -/
theorem sh_text : textT [2, -1] [1] = [50, 32, 45, 32, 124, 32, 49] := by
  have d : ∀ u : Nat, u < 10 → Lib.decDigits u = [UInt8.ofNat (48 + u)] := fun u hu => by rw [Lib.decDigits, dif_pos hu]
  unfold textT wordsT slotB Lib.itoa
  simp [d, Lib.join, List.intercalate]
theorem shown_spec (w : World) : Calls Tryd.prog 11 #[] w fun e w' => e = .returned (.bool true) ∧ Ext w w' := by
  refine vc_11 _ _ ?_
  simp only [eq_self, false_or, or_false, true_and, and_true, decide_eq_true_eq, decide_eq_false_iff_not, gd_st, gd_sf, exists_eq_left', exists_eq_left, Option.some.injEq, Sl.eta, Nat.reduceLeDiff, Int.reduceLE, Int.reduceLT, Int.reduceEq, Int.reduceNe, Nat.reduceMul, Nat.reduceAdd, Nat.reduceSub, Int.toNat_natCast, beq_iff_eq, bne_iff_ne, beq_eq_false_iff_ne, bne_eq_false_iff_eq, pick_and, pick_or, Bool.and_eq_true, Bool.or_eq_true, Bool.and_eq_false_iff, Bool.or_eq_false_iff, ne_eq, not_false_eq_true, Bool.not_eq_true', Bool.not_eq_false', reduceCtorEq, Nat.le_refl, Nat.zero_mul, Nat.mul_one, Nat.zero_add, Int.reduceToNat, ones, one, add_mk, Decidable.not_not, cond_true, cond_false, true_implies, false_implies, implies_true, Bool.not_true, Bool.not_false]
  intro w1 n1 w2 n2
  refine ⟨by simp [len', wr], fun w3 n3 w4 n4 => ⟨by simp [len', wr], ?_⟩⟩
  have x4 := ((n1.ext.trans n2.ext).trans n3.ext).trans n4.ext
  have r1 : Rd w4 1 ⟨some ⟨w.heap.size, 0, none⟩, 2, 2⟩ (iv [2, 0]) := ((Blk.new n1).ext ((n2.ext.trans n3.ext).trans n4.ext)).rd (z := 1) (o := 0) (n := 2) (c := 2) (by simp)
  have r2 : Rd w4 1 ⟨some ⟨w1.heap.size, 0, none⟩, 1, 1⟩ (iv [1]) := ((Blk.new n2).ext (n3.ext.trans n4.ext)).rd (z := 1) (o := 0) (n := 1) (c := 1) (by simp)
  have r3 : Rd w4 1 ⟨some ⟨w2.heap.size, 0, none⟩, 2, 2⟩ (iv [2, 1]) := ((Blk.new n3).ext n4.ext).rd (z := 1) (o := 0) (n := 2) (c := 2) (by simp)
  have r4 : Rd w4 1 ⟨some ⟨w3.heap.size, 0, none⟩, 1, 1⟩ (iv [1]) := (Blk.new n4).rd (z := 1) (o := 0) (n := 1) (c := 1) (by simp)
  refine ⟨(join_spec (a0 := ⟨some ⟨w.heap.size, 0, none⟩, 2, 2⟩) (a1 := ⟨some ⟨w1.heap.size, 0, none⟩, 1, 1⟩) (b0 := ⟨some ⟨w2.heap.size, 0, none⟩, 2, 2⟩) (b1 := ⟨some ⟨w3.heap.size, 0, none⟩, 1, 1⟩) ⟨r1, r2, by simp, by simp⟩ ⟨r3, r4, by simp, by simp⟩).mono ?_⟩
  rintro e w5 ⟨s, t, rfl, jd⟩
  have hj : JoinOk [2, 0] [1] [2, 1] [1] := ⟨rfl, rfl⟩
  have ja := jd.a; have jb := jd.b
  rw [if_pos hj] at ja jb
  have ba : bothL [2, 0] [2, 1] = [2, -1] := by decide
  have bb : bothL [1] [1] = [1] := by decide
  rw [ba] at ja; rw [bb] at jb
  refine ⟨s, t, _, rfl, fun w6 n6 => ⟨rfl, FB.can n6, fun w7 s7 => ?_⟩⟩
  obtain ⟨f7, y7⟩ := FB.made n6 s7
  have x7 := (x4.trans jd.x).trans y7
  refine ⟨fun _ => ⟨s, t, rfl, ⟨f7.cell 0, f7.cell 1⟩, ⟨(text_spec ⟨(ja.ext y7).rd, (jb.ext y7).rd, by simp, by simp⟩ (itoas_small (by decide)) (itoas_small (by decide)) (by simp) (by rw [sh_text]; decide)).mono ?_⟩⟩, fun h => absurd (decide_eq_true hj) (by rw [h]; decide)⟩
  rintro e w8 ⟨rfl, x8⟩
  rw [sh_text]
  refine ⟨_, rfl, fun _ w9 n9 w10 n10 => ?_, fun h => absurd rfl h⟩
  have q1 : Rd w10 1 ⟨some ⟨w8.heap.size, 0, none⟩, 1, 1⟩ (iv [2]) := ((Blk.new n9).ext n10.ext).rd (z := 1) (o := 0) (n := 1) (c := 1) (by simp)
  have q2 : Rd w10 1 ⟨some ⟨w9.heap.size, 0, none⟩, 1, 1⟩ (iv [-1]) := (Blk.new n10).rd (z := 1) (o := 0) (n := 1) (c := 1) (by simp)
  refine ⟨(less_spec (a0 := ⟨some ⟨w8.heap.size, 0, none⟩, 1, 1⟩) (a1 := ⟨none, 0, 0⟩) (b0 := ⟨some ⟨w9.heap.size, 0, none⟩, 1, 1⟩) (b1 := ⟨none, 0, 0⟩) (ys := []) (ys' := []) ⟨q1, Rd.nil _ _ _ _, by simp, by simp⟩ ⟨q2, Rd.nil _ _ _ _, by simp, by simp⟩).mono ?_⟩
  rintro e w11 ⟨rfl, x11⟩
  refine ⟨_, rfl, rb (by decide), (((x7.trans x8).trans n9.ext).trans n10.ext).trans x11⟩
end Go.Proofs.YtfppdkkbekkhbaaDoor.V
