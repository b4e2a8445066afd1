/-
  The program's table: At, Sites.
-/
import Derived.Test.YtihnjjmbcbfheaaDoorRo3
import Derived.Test.YtihnjjmbcbfheaaDoorVcC
namespace Go.Proofs.YtihnjjmbcbfheaaDoor.V
open Go Go.RowKit
set_option linter.unusedVariables false
set_option linter.unusedSimpArgs false
set_option linter.unusedSectionVars false
set_option maxRecDepth 100000

structure Tbl (w : World) (t r : Nat) (n : Int) (f : FS) : Prop where
  blk : Blk w t 51 [.int .i64 n, .map (some r)]
  map : MapS w r f
section
variable {w w' : World} {t r : Nat} {n : Int} {f : FS} {S : Nat → Prop}
theorem Tbl.upd (h : Tbl w t r n f) (u : Upd S w w') (h1 : ¬ S t) (h2 : ¬ S r) : Tbl w' t r n f := ⟨h.blk.upd u h1, h.map.upd u h2⟩
theorem Tbl.ext (h : Tbl w t r n f) (u : Ext w w') : Tbl w' t r n f := h.upd u not_false not_false
theorem MapS.lookT (h : MapS w r f) (a c : Int) : Runs Tryd.prog (Instr.lookup 49 (.map (some r)) (kk a c) true) w (.tuple #[.agg #[.int .u64 (((f a c).getD (0, 0)).1 : Nat), .int .u64 (((f a c).getD (0, 0)).2 : Nat)], .bool (f a c).isSome]) w := h.look a c true
theorem MapS.lookF (h : MapS w r f) (a c : Int) : Runs Tryd.prog (Instr.lookup 49 (.map (some r)) (kk a c) false) w (.agg #[.int .u64 (((f a c).getD (0, 0)).1 : Nat), .int .u64 (((f a c).getD (0, 0)).2 : Nat)]) w := h.look a c false
theorem tat_spec (h : Tbl w t r n f) (a c : Int) :
    Calls Tryd.prog 11 #[.pointer (some ⟨t, 0, none⟩), .int .i64 a, .int .i64 c] w fun e w' => e = .returned (.tuple #[.agg #[.int .u64 (((f a c).getD (0, 0)).1 : Nat), .int .u64 (((f a c).getD (0, 0)).2 : Nat)], .bool (f a c).isSome]) ∧ Ext w w' := by
  refine vc_11 _ _ _ _ _ ?_
  simp only [eq_self, false_or, or_false, true_and, and_true, decide_eq_true_eq, decide_eq_false_iff_not, gd_st, gd_sf, exists_eq_left', exists_eq_left, Option.some.injEq, Sl.eta, Nat.reduceLeDiff, Int.reduceLE, Int.reduceLT, Int.reduceEq, Int.reduceNe, Nat.reduceMul, Nat.reduceAdd, Nat.reduceSub, Int.toNat_natCast, beq_iff_eq, bne_iff_ne, beq_eq_false_iff_ne, bne_eq_false_iff_eq, pick_and, pick_or, Bool.and_eq_true, Bool.or_eq_true, Bool.and_eq_false_iff, Bool.or_eq_false_iff, ne_eq, not_false_eq_true, Bool.not_eq_true', Bool.not_eq_false', reduceCtorEq, Nat.le_refl, Nat.zero_mul, Nat.mul_one, Nat.zero_add, Int.reduceToNat, ones, one, add_mk, Decidable.not_not, cond_true, cond_false, true_implies, false_implies, implies_true, Bool.not_true, Bool.not_false]
  intro w1 n1
  have h1 := h.ext n1.ext
  refine ⟨some r, h1.blk.cell 1, (by show 2 ≤ 2; decide), _, _, _, w1, h1.map.lookT a c, fun w2 n2 => ⟨rfl, (Blk.new n2).canSetN 0 2 (by simp), fun w3 s3 => ?_⟩⟩
  have k3 : Blk w3 w1.heap.size 44 [.int .u64 (((f a c).getD (0, 0)).1 : Nat), .int .u64 (((f a c).getD (0, 0)).2 : Nat)] := s3.blk (Blk.new n2)
  have z1 := n1.size
  have b3 := (((Blk.new n1).ext n2.ext).upd s3.upd (by intro e; have e : w.heap.size = w1.heap.size := e; omega))
  have x3 : Ext w w3 := (n1.ext.trans n2.ext).fresh s3.upd (by rintro i rfl; show w.heap.size ≤ w1.heap.size; omega)
  refine ⟨_, _, rfl, ⟨k3.cell 0, k3.cell 1⟩, rfl, b3.canSetN 0 2 (by simp), fun w4 s4 => ?_⟩
  have k4 : Blk w4 w.heap.size 44 [.int .u64 (((f a c).getD (0, 0)).1 : Nat), .int .u64 (((f a c).getD (0, 0)).2 : Nat)] := s4.blk b3
  exact ⟨_, _, rfl, ⟨k4.cell 0, k4.cell 1⟩, rfl, x3.fresh s4.upd (by rintro i rfl; exact Nat.le_refl _)⟩
end
/-! ### the places of a function -/
def pick (fn : Int) (done : List (Int × Int)) : List Int := done.filterMap fun q => if q.1 = fn then some q.2 else none
theorem pick_own (fn y : Int) (done : List (Int × Int)) : pick fn (done ++ [(fn, y)]) = pick fn done ++ [y] := by simp [pick, List.filterMap_append]
theorem pick_other {fn x : Int} (h : x ≠ fn) (y : Int) (done : List (Int × Int)) : pick fn (done ++ [(x, y)]) = pick fn done := by simp [pick, List.filterMap_append, h]
theorem pick_mem (fn y : Int) (done : List (Int × Int)) : y ∈ pick fn done ↔ (fn, y) ∈ done := by
  unfold pick
  rw [List.mem_filterMap]
  constructor
  · rintro ⟨q, hq, e⟩
    split at e
    · rename_i h
      injection e with e
      rw [← h, ← e]; exact hq
    · cases e
  · intro h
    exact ⟨_, h, by simp⟩
theorem pick_nodup (fn : Int) : ∀ {done : List (Int × Int)}, done.Nodup → (pick fn done).Nodup
  | [], _ => List.nodup_nil
  | q :: l, h => by
    rw [List.nodup_cons] at h
    have ih := pick_nodup fn h.2
    have e : pick fn (q :: l) = if q.1 = fn then q.2 :: pick fn l else pick fn l := by
      unfold pick
      rw [List.filterMap_cons]
      split
      · rename_i h1; split at h1
        · cases h1
        · rename_i h2; rw [if_neg h2]
      · rename_i h1; split at h1
        · rename_i h2; injection h1 with h1; rw [if_pos h2, h1]
        · cases h1
    rw [e]
    split
    · rename_i hq
      rw [List.nodup_cons]
      refine ⟨fun hm => h.1 ?_, ih⟩
      rw [pick_mem] at hm
      rw [← hq] at hm
      exact hm
    · exact ih
theorem nodup_len : ∀ (n : Nat) (l : List Int), l.Nodup → (∀ x ∈ l, 0 ≤ x ∧ x < (n : Int)) → l.length ≤ n
  | 0, l, _, h => by
    cases l with
    | nil => exact Nat.zero_le _
    | cons x l => have := h x (by simp); omega
  | n + 1, l, hn, h => by
    have h1 : (l.erase (n : Int)).length ≤ n := nodup_len n _ (hn.erase _) fun x hx => by
      rw [hn.mem_erase_iff] at hx
      have := h x hx.2
      have := hx.1
      omega
    have h2 := List.length_erase (a := (n : Int)) (l := l)
    split at h2 <;> omega
theorem sort_strict {l : List Int} (h : l.Nodup) : (l.mergeSort fun x y => decide (x ≤ y)).Pairwise (· < ·) := by
  have h1 : (l.mergeSort fun x y => decide (x ≤ y)).Pairwise (fun x y => decide (x ≤ y) = true) := List.pairwise_mergeSort (fun a b c h1 h2 => by simp at *; omega) (fun a b => by simp; omega) l
  have h2 : (l.mergeSort fun x y => decide (x ≤ y)).Nodup := (List.mergeSort_perm l _).nodup_iff.2 h
  refine (h1.and h2).imp fun {a b} hab => ?_
  have := hab.1
  have h3 := hab.2
  simp at this
  omega
section
variable {w w' : World} {t r b : Nat} {n : Int} {f : FS} {S : Nat → Prop} {done : List (Int × Int)} {m : Nat}
def leftW (w : World) (b r : Nat) : Nat :=
  match w.heap[b]?, w.heap[r]? with
  | some (.map es _), some (.mapIter _ _ seen _) => (leftOf es seen).size
  | _, _ => 0
theorem RngS.left (h : RngS w b r f done m) : leftW w b r = m := by
  obtain ⟨es, clock, since, seen, c0, hb, he, hr, _, _, _, h3, _⟩ := h
  unfold leftW
  rw [hb, hr]
  exact h3
theorem RngS.ext (h : RngS w b r f done m) (u : Ext w w') : RngS w' b r f done m := h.upd u not_false not_false
set_option maxHeartbeats 1000000 in
theorem tsites_spec (h : Tbl w t r n f) (fn : Int) (hb : ∀ x y, f x y ≠ none → 0 ≤ y ∧ y < 300) :
    Calls Tryd.prog 29 #[.pointer (some ⟨t, 0, none⟩), .int .i64 fn] w fun e w' => ∃ (s : Sl) (l : List Int), e = .returned (.slice s.a s.n s.c) ∧ Own w' w.heap.size 3 1 s (iv l) ∧ l.Pairwise (· < ·) ∧ (∀ y, y ∈ l ↔ f fn y ≠ none) ∧ Ext w w' := by
  refine vc_29 _ _ _ _ ?_
  simp only [eq_self, false_or, or_false, true_and, and_true, decide_eq_true_eq, decide_eq_false_iff_not, gd_st, gd_sf, exists_eq_left', exists_eq_left, Option.some.injEq, Sl.eta, Nat.reduceLeDiff, Int.reduceLE, Int.reduceLT, Int.reduceEq, Int.reduceNe, Nat.reduceMul, Nat.reduceAdd, Nat.reduceSub, Int.toNat_natCast, beq_iff_eq, bne_iff_ne, beq_eq_false_iff_ne, bne_eq_false_iff_eq, pick_and, pick_or, Bool.and_eq_true, Bool.or_eq_true, Bool.and_eq_false_iff, Bool.or_eq_false_iff, ne_eq, not_false_eq_true, Bool.not_eq_true', Bool.not_eq_false', reduceCtorEq, Nat.le_refl, Nat.zero_mul, Nat.mul_one, Nat.zero_add, Int.reduceToNat, ones, one, add_mk, Decidable.not_not, cond_true, cond_false, true_implies, false_implies, implies_true, Bool.not_true, Bool.not_false]
  obtain ⟨w1, m1, hr1, R1, x1, z1⟩ := h.map.range
  refine ⟨some r, h.blk.cell 1, _, w1, hr1, fun s w' => ∃ done m, RngS w' r w.heap.size f done m ∧ Own w' (w.heap.size + 1) 3 1 s (iv (pick fn done)) ∧ (∀ y ∈ pick fn done, 0 ≤ y ∧ y < 300) ∧ (pick fn done).Nodup ∧ Ext w w', fun _ w' => leftW w' r w.heap.size, ⟨[], m1, R1, Own.nil _ _ _ _, fun y hy => (by cases hy), List.nodup_nil, x1⟩, ?_⟩
  rintro _ s w2 ⟨done, m, R2, o2, hd, hnd, x2⟩
  have hlen := nodup_len 300 _ hnd hd
  have z2 := R2.lt
  have hsn := o2.rd.leni
  rcases R2.next 0 with ⟨hn, hall⟩ | ⟨a, c, p, w3, m', hn, he, R3, hlt, hno, hf, u3⟩
  · refine .inl ⟨w2, hn, ⟨(sort_spec o2 (by omega)).mono ?_⟩⟩
    rintro e w3 ⟨v, rfl, o3, u3⟩
    refine ⟨v, rfl, s, _, rfl, o3.mono (by omega), sort_strict hnd, fun y => ?_, x2.fresh u3 (by rintro i ⟨q, hq, rfl⟩; have := (o2.base q hq).1; omega)⟩
    rw [(List.mergeSort_perm _ _).mem_iff, pick_mem]
    exact hall fn y
  · refine .inr ⟨_, _, w3, hn, a, c, _, w3, he, fun w4 n4 => ⟨rfl, (Blk.new n4).canSetN 0 2 (by simp), fun w5 s5 => ?_⟩⟩
    have k5 : Blk w5 w3.heap.size 85 [.int .i64 a, .int .i64 c] := s5.blk (Blk.new n4)
    have x35 : Ext w3 w5 := n4.ext.fresh s5.upd (by rintro i rfl; exact Nat.le_refl _)
    have x3 : Ext w w3 := x2.fresh u3 (by rintro i rfl; exact Nat.le_refl _)
    have o3 : Own w3 (w.heap.size + 1) 3 1 s (iv (pick fn done)) := o2.upd u3 (by rintro q hq e; have e : q.block = w.heap.size := e; have := (o2.base q hq).1; omega)
    have R5 := R3.ext x35
    have x5 := x3.trans x35
    refine ⟨_, k5.cell 0, fun ha => ⟨_, k5.cell 1, fun w6 n6 => ?_⟩, fun hne => ⟨⟨_, m', R5, by rw [pick_other hne]; exact o3.ext x35, by rw [pick_other hne]; exact hd, by rw [pick_other hne]; exact hnd, x5⟩, by dsimp only; rw [R5.left, R2.left]; exact hlt⟩⟩
    subst ha
    have o6 := (o3.ext x35).ext n6.ext
    have z5 := x5.size
    have z6 := n6.size
    have zl := R3.lt
    have z35 := x35.size
    obtain ⟨s', w7, hr7, _, o7, u7, _⟩ := o6.append (t := 78) (ty := 78) tab_ok rfl rfl (by decide) ((Blk.new n6).rd (z := 1) (o := 0) (n := 1) (c := 1) (by simp)) (by simp [one]) (by dsimp only; omega) (by dsimp only; omega) (by omega)
    have R7 := (R5.ext n6.ext).upd u7 (by rintro ⟨q, hq, e⟩; have := (o6.base q hq).1; have := h.map.lt; omega) (by rintro ⟨q, hq, e⟩; have := (o6.base q hq).1; omega)
    have e7 : iv (pick a done) ++ [Value.int .i64 c] = iv (pick a (done ++ [(a, c)])) := by rw [pick_own]; unfold iv; rw [List.map_append]; rfl
    have hfc := hb a c (by rw [hf]; simp)
    refine ⟨s', w7, hr7, ⟨_, m', R7, by rw [← e7]; exact o7, fun y hy => ?_, ?_, (x5.trans n6.ext).fresh u7 (by rintro i ⟨q, hq, rfl⟩; have := (o6.base q hq).1; omega)⟩, by dsimp only; rw [R7.left, R2.left]; exact hlt⟩
    · rw [pick_own, List.mem_append, List.mem_singleton] at hy
      rcases hy with hy | rfl
      · exact hd y hy
      · exact hfc
    · rw [pick_own, List.nodup_append]
      refine ⟨hnd, by simp, fun x hx y hy e => ?_⟩
      rw [List.mem_singleton] at hy
      subst hy; subst e
      exact hno ((pick_mem a x done).1 hx)
end
end Go.Proofs.YtihnjjmbcbfheaaDoor.V
