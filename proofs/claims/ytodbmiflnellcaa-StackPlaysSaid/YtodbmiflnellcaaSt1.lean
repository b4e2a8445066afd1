/-
  Package stack: the model, the state, what only reads.
-/
import Derived.Test.YtodbmiflnellcaaVcA
import Derived.Test.YtodbmiflnellcaaClr
namespace Go.Proofs.Ytodbmiflnellcaa.V
open Go Go.RowKit
set_option linter.unusedVariables false
set_option linter.unusedSimpArgs false

structure Fr where
  fn : Nat
  at_ : Nat
  hi : Nat
  ls : List Nat
  ops : List Nat
def Fr.size (f : Fr) : Nat := 3 + f.ls.length + f.hi
structure Fr.Ok (f : Fr) : Prop where
  fn : f.fn < 2147483648
  at_ : f.at_ < 2147483648
  ls : f.ls.length ≤ 32
  hi : f.hi ≤ 24
  ops : f.ops.length ≤ f.hi
def used : List Fr → Nat
  | [] => 0
  | f :: r => f.size + used r
def starts : Nat → List Fr → List Int
  | _, [] => []
  | o, f :: r => (o : Int) :: starts (o + f.size) r
structure FrAt (cs : List Nat) (o : Nat) (f : Fr) : Prop where
  ok : f.Ok
  pl : cs[o]? = some (f.fn * 4294967296 + f.at_)
  sh : cs[o + 1]? = some (f.ls.length * 4294967296 + f.hi)
  ht : cs[o + 2]? = some f.ops.length
  ls : ∀ j v, f.ls[j]? = some v → cs[o + 3 + j]? = some v
  ops : ∀ j v, f.ops[j]? = some v → cs[o + 3 + f.ls.length + j]? = some v
def LayR (cs : List Nat) : Nat → List Fr → Prop
  | _, [] => True
  | o, f :: r => FrAt cs o f ∧ LayR cs (o + f.size) r

theorem used_append (A B : List Fr) : used (A ++ B) = used A + used B := by
  induction A with
  | nil => simp [used]
  | cons f r ih => simp [used, ih, Nat.add_assoc]
theorem used_one (f : Fr) : used [f] = f.size := by simp [used]
theorem starts_len (L : List Fr) : ∀ o, (starts o L).length = L.length := by
  induction L with
  | nil => intro o; rfl
  | cons f r ih => intro o; simp [starts, ih]
theorem starts_append (A B : List Fr) : ∀ o, starts o (A ++ B) = starts o A ++ starts (o + used A) B := by
  induction A with
  | nil => intro o; rfl
  | cons f r ih => intro o; simp [starts, ih, used, Nat.add_assoc]
theorem lay_append (cs : List Nat) (A B : List Fr) : ∀ o, LayR cs o (A ++ B) ↔ LayR cs o A ∧ LayR cs (o + used A) B := by
  induction A with
  | nil => intro o; simp [LayR, used]
  | cons f r ih => intro o; simp [LayR, ih, used, Nat.add_assoc, and_assoc]
theorem FrAt.congr {cs cs' : List Nat} {o : Nat} {f : Fr} (h : FrAt cs o f) (hc : ∀ j, o ≤ j → j < o + f.size → cs'[j]? = cs[j]?) : FrAt cs' o f := by
  have ho := h.ok.ops
  have hz : f.size = 3 + f.ls.length + f.hi := rfl
  refine ⟨h.ok, ?_, ?_, ?_, fun j v hv => ?_, fun j v hv => ?_⟩
  · rw [hc _ (by omega) (by omega)]; exact h.pl
  · rw [hc _ (by omega) (by omega)]; exact h.sh
  · rw [hc _ (by omega) (by omega)]; exact h.ht
  · have hj : j < f.ls.length := (List.getElem?_eq_some_iff.1 hv).1
    rw [hc _ (by omega) (by omega)]; exact h.ls j v hv
  · have hj : j < f.ops.length := (List.getElem?_eq_some_iff.1 hv).1
    rw [hc _ (by omega) (by omega)]; exact h.ops j v hv
theorem lay_congr {cs cs' : List Nat} (L : List Fr) : ∀ o, LayR cs o L → (∀ j, o ≤ j → j < o + used L → cs'[j]? = cs[j]?) → LayR cs' o L := by
  induction L with
  | nil => intro o _ _; trivial
  | cons f r ih =>
    intro o h hc
    simp only [used] at hc
    exact ⟨h.1.congr fun j h1 h2 => hc j h1 (by omega), ih _ h.2 fun j h1 h2 => hc j (by omega) (by omega)⟩
theorem split_at (L : List Fr) (k : Int) : (k < 0 ∨ (L.length : Int) ≤ k) ∨ ∃ A f C, L = A ++ f :: C ∧ k = (A.length : Int) := by
  by_cases h : k < 0 ∨ (L.length : Int) ≤ k
  · exact .inl h
  · right
    have hk : k.toNat < L.length := by omega
    refine ⟨L.take k.toNat, L[k.toNat], L.drop (k.toNat + 1), ?_, ?_⟩
    · rw [← List.drop_eq_getElem_cons hk, List.take_append_drop]
    · rw [List.length_take]; omega
theorem top_at (L : List Fr) : L = [] ∨ ∃ A f, L = A ++ [f] := by
  rcases List.eq_nil_or_concat L with h | ⟨A, f, h⟩
  · exact .inl h
  · exact .inr ⟨A, f, by simpa using h⟩

theorem shr32 (x : Nat) : shrV .u64 (x : Int) 32 = ((x / 4294967296 : Nat) : Int) := shr_nat .u64 x 32 (by decide)
/-- a stack in block g -/
structure StkAt (w : World) (g gr words : Nat) (fs : Sl) (cs : List Nat) (L : List Fr) : Prop where
  hd : Blk w g 65 [.slice (some ⟨gr, 0, none⟩) words words, .int .i64 (used L : Nat), .slice fs.a fs.n fs.c]
  row : Blk w gr 34 (uv cs)
  len : cs.length = words
  fst : Own w 0 3 1 fs (iv (starts 0 L))
  lay : LayR cs 0 L
  fit : used L ≤ words
  big : words ≤ 65536
  ne : gr ≠ g
  off : ∀ p, fs.a = some p → p.block ≠ g ∧ p.block ≠ gr
/-- a stack in block g, in blocks of F -/
def Stk (w : World) (g : Nat) (F : Nat → Prop) (words : Nat) (L : List Fr) : Prop :=
  ∃ gr fs cs, StkAt w g gr words fs cs L ∧ F g ∧ F gr ∧ (∀ p, fs.a = some p → F p.block) ∧ ∀ k, F k → k = g ∨ k = gr ∨ ∃ p, fs.a = some p ∧ k = p.block

section
variable {w w' : World} {g gr words : Nat} {fs : Sl} {cs : List Nat} {L A C : List Fr} {f : Fr} {S F : Nat → Prop}
theorem StkAt.upd (h : StkAt w g gr words fs cs L) (u : Upd S w w') (hg : ¬ S g) (hr : ¬ S gr) (hs : fs.off S) : StkAt w' g gr words fs cs L :=
  ⟨h.hd.upd u hg, h.row.upd u hr, h.len, h.fst.upd u hs, h.lay, h.fit, h.big, h.ne, h.off⟩
theorem StkAt.ext (h : StkAt w g gr words fs cs L) (u : Ext w w') : StkAt w' g gr words fs cs L := h.upd u not_false not_false fun _ _ => not_false
theorem Stk.upd (h : Stk w g F words L) (u : Upd S w w') (hd : ∀ k, F k → ¬ S k) : Stk w' g F words L := by
  obtain ⟨gr, fs, cs, h, f1, f2, f3, f4⟩ := h
  exact ⟨gr, fs, cs, h.upd u (hd _ f1) (hd _ f2) fun p hp => hd _ (f3 p hp), f1, f2, f3, f4⟩
theorem Stk.lt (h : Stk w g F words L) (k : Nat) (hk : F k) : k < w.heap.size := by
  obtain ⟨gr, fs, cs, h, f1, f2, f3, f4⟩ := h
  rcases f4 k hk with rfl | rfl | ⟨p, hp, rfl⟩
  · exact h.hd.lt
  · exact h.row.lt
  · exact (h.fst.base p hp).2
theorem Stk.ext (h : Stk w g F words L) (u : Ext w w') : Stk w' g F words L := h.upd u fun _ _ => not_false
theorem StkAt.cellAt (h : StkAt w g gr words fs cs L) {i v : Nat} (hi : cs[i]? = some v) : w.cell? ⟨gr, i, none⟩ = some (.int .u64 (v : Nat)) := by
  rw [h.row.cell, uv, List.getElem?_map, hi]; rfl
theorem StkAt.at_ (h : StkAt w g gr words fs cs (A ++ f :: C)) : FrAt cs (used A) f := by
  have := ((lay_append cs A (f :: C) 0).1 h.lay).2
  rw [Nat.zero_add] at this
  exact this.1
theorem StkAt.lenS (h : StkAt w g gr words fs cs L) : fs.n = L.length := by
  have := h.fst.len1
  rw [iv_length, starts_len] at this
  exact this.symm
theorem StkAt.room (h : StkAt w g gr words fs cs (A ++ f :: C)) : used A + f.size ≤ words := by
  have := h.fit
  rw [used_append] at this
  simp only [used] at this
  omega
theorem Fr.size_ge (f : Fr) : 3 ≤ f.size := by unfold Fr.size; omega

theorem frame_in (h : StkAt w g gr words fs cs (A ++ f :: C)) :
    Calls Try.prog 34 #[.pointer (some ⟨g, 0, none⟩), .int .i64 (A.length : Nat)] w fun e w' =>
      e = .returned (.slice (some ⟨gr, used A, none⟩) (words - used A) (words - used A)) ∧ Qt w w' := by
  refine vc_34 _ _ _ _ ?_
  have hb := h.hd
  have hn := h.lenS
  have hr := h.room
  have hz := f.size_ge
  rw [List.length_append, List.length_cons] at hn
  obtain ⟨p, x, hp, hx, hc⟩ := h.fst.rd.intl A.length (by omega)
  rw [starts_append, List.getElem?_append_right (by rw [starts_len]; omega), starts_len, Nat.sub_self] at hx
  simp only [starts, List.getElem?_cons_zero, Option.some.injEq, Nat.zero_add] at hx
  subst hx
  rw [Nat.mul_one] at hc
  simp only [eq_self, true_and, and_true, decide_eq_true_eq, decide_eq_false_iff_not, gd_st, gd_sf, exists_eq_left', exists_eq_left, Option.some.injEq, Sl.eta, Nat.reduceLeDiff, Int.reduceLE, Int.reduceLT, Int.reduceEq, Int.reduceNe, Nat.reduceMul, Nat.reduceAdd, Nat.reduceSub, Int.toNat_natCast, beq_iff_eq, bne_iff_ne, beq_eq_false_iff_ne, bne_eq_false_iff_eq, pick_and, pick_or, Bool.and_eq_true, Bool.or_eq_true, Bool.and_eq_false_iff, Bool.or_eq_false_iff, ne_eq, not_false_eq_true, Bool.not_eq_true', Bool.not_eq_false', reduceCtorEq, Nat.le_refl, Nat.zero_mul, Nat.mul_one, Nat.zero_add, Int.reduceToNat, ones, one, add_mk, Decidable.not_not, cond_true, cond_false, true_implies, false_implies, implies_true, Bool.not_true, Bool.not_false]
  simp only [hb.cell, List.getElem?_cons_zero, List.getElem?_cons_succ, ex_sl, Value.int.injEq, Value.bool.injEq, Value.pointer.injEq, Value.string.injEq, eq_self, true_and, and_true, decide_eq_true_eq, decide_eq_false_iff_not, gd_st, gd_sf, exists_eq_left', exists_eq_left, Option.some.injEq, Sl.eta, Nat.reduceLeDiff, Int.reduceLE, Int.reduceLT, Int.reduceEq, Int.reduceNe, Nat.reduceMul, Nat.reduceAdd, Nat.reduceSub, Int.toNat_natCast, beq_iff_eq, bne_iff_ne, beq_eq_false_iff_ne, bne_eq_false_iff_eq, pick_and, pick_or, Bool.and_eq_true, Bool.or_eq_true, Bool.and_eq_false_iff, Bool.or_eq_false_iff, ne_eq, not_false_eq_true, Bool.not_eq_true', Bool.not_eq_false', reduceCtorEq, Nat.le_refl, Nat.zero_mul, Nat.mul_one, Nat.zero_add, Int.reduceToNat, ones, one, add_mk, Decidable.not_not, cond_true, cond_false, true_implies, false_implies, implies_true, Bool.not_true, Bool.not_false]
  refine ⟨fun _ => ⟨fun hk => by omega, fun _ => ⟨by omega, by omega, p, hp, _, hc, by omega, by omega, fun w' hq => ⟨?_, hq⟩⟩⟩, fun hk => by omega⟩
  rw [Int.toNat_natCast, if_neg (by omega)]
  simp [add_mk]
theorem frame_out (h : StkAt w g gr words fs cs L) (k : Int) (hk : k < 0 ∨ (L.length : Int) ≤ k) :
    Calls Try.prog 34 #[.pointer (some ⟨g, 0, none⟩), .int .i64 k] w fun e w' =>
      e = .returned (.slice none 0 0) ∧ Qt w w' := by
  refine vc_34 _ _ _ _ ?_
  have hb := h.hd
  have hn := h.lenS
  simp only [eq_self, true_and, and_true, decide_eq_true_eq, decide_eq_false_iff_not, gd_st, gd_sf, exists_eq_left', exists_eq_left, Option.some.injEq, Sl.eta, Nat.reduceLeDiff, Int.reduceLE, Int.reduceLT, Int.reduceEq, Int.reduceNe, Nat.reduceMul, Nat.reduceAdd, Nat.reduceSub, Int.toNat_natCast, beq_iff_eq, bne_iff_ne, beq_eq_false_iff_ne, bne_eq_false_iff_eq, pick_and, pick_or, Bool.and_eq_true, Bool.or_eq_true, Bool.and_eq_false_iff, Bool.or_eq_false_iff, ne_eq, not_false_eq_true, Bool.not_eq_true', Bool.not_eq_false', reduceCtorEq, Nat.le_refl, Nat.zero_mul, Nat.mul_one, Nat.zero_add, Int.reduceToNat, ones, one, add_mk, Decidable.not_not, cond_true, cond_false, true_implies, false_implies, implies_true, Bool.not_true, Bool.not_false]
  simp only [hb.cell, List.getElem?_cons_zero, List.getElem?_cons_succ, ex_sl, Value.int.injEq, Value.bool.injEq, Value.pointer.injEq, Value.string.injEq, eq_self, true_and, and_true, decide_eq_true_eq, decide_eq_false_iff_not, gd_st, gd_sf, exists_eq_left', exists_eq_left, Option.some.injEq, Sl.eta, Nat.reduceLeDiff, Int.reduceLE, Int.reduceLT, Int.reduceEq, Int.reduceNe, Nat.reduceMul, Nat.reduceAdd, Nat.reduceSub, Int.toNat_natCast, beq_iff_eq, bne_iff_ne, beq_eq_false_iff_ne, bne_eq_false_iff_eq, pick_and, pick_or, Bool.and_eq_true, Bool.or_eq_true, Bool.and_eq_false_iff, Bool.or_eq_false_iff, ne_eq, not_false_eq_true, Bool.not_eq_true', Bool.not_eq_false', reduceCtorEq, Nat.le_refl, Nat.zero_mul, Nat.mul_one, Nat.zero_add, Int.reduceToNat, ones, one, add_mk, Decidable.not_not, cond_true, cond_false, true_implies, false_implies, implies_true, Bool.not_true, Bool.not_false]
  exact ⟨fun h0 => ⟨fun _ => Qt.refl _, fun h1 => by omega⟩, fun _ => Qt.refl _⟩
theorem top_in (h : StkAt w g gr words fs cs (A ++ [f])) :
    Calls Try.prog 30 #[.pointer (some ⟨g, 0, none⟩)] w fun e w' =>
      e = .returned (.slice (some ⟨gr, used A, none⟩) (words - used A) (words - used A)) ∧ Qt w w' := by
  refine vc_30 _ _ _ ?_
  have hb := h.hd
  have hn := h.lenS
  have hf := h.fit
  have hg := h.big
  have hl : A.length ≤ used A := by
    clear h hb hn hf hg
    induction A with
    | nil => simp
    | cons a r ih => have := a.size_ge; simp only [List.length_cons, used]; omega
  rw [List.length_append, List.length_singleton] at hn
  rw [used_append] at hf
  simp only [eq_self, true_and, and_true, decide_eq_true_eq, decide_eq_false_iff_not, gd_st, gd_sf, exists_eq_left', exists_eq_left, Option.some.injEq, Sl.eta, Nat.reduceLeDiff, Int.reduceLE, Int.reduceLT, Int.reduceEq, Int.reduceNe, Nat.reduceMul, Nat.reduceAdd, Nat.reduceSub, Int.toNat_natCast, beq_iff_eq, bne_iff_ne, beq_eq_false_iff_ne, bne_eq_false_iff_eq, pick_and, pick_or, Bool.and_eq_true, Bool.or_eq_true, Bool.and_eq_false_iff, Bool.or_eq_false_iff, ne_eq, not_false_eq_true, Bool.not_eq_true', Bool.not_eq_false', reduceCtorEq, Nat.le_refl, Nat.zero_mul, Nat.mul_one, Nat.zero_add, Int.reduceToNat, ones, one, add_mk, Decidable.not_not, cond_true, cond_false, true_implies, false_implies, implies_true, Bool.not_true, Bool.not_false]
  simp only [hb.cell, List.getElem?_cons_zero, List.getElem?_cons_succ, ex_sl, Value.int.injEq, Value.bool.injEq, Value.pointer.injEq, Value.string.injEq, eq_self, true_and, and_true, decide_eq_true_eq, decide_eq_false_iff_not, gd_st, gd_sf, exists_eq_left', exists_eq_left, Option.some.injEq, Sl.eta, Nat.reduceLeDiff, Int.reduceLE, Int.reduceLT, Int.reduceEq, Int.reduceNe, Nat.reduceMul, Nat.reduceAdd, Nat.reduceSub, Int.toNat_natCast, beq_iff_eq, bne_iff_ne, beq_eq_false_iff_ne, bne_eq_false_iff_eq, pick_and, pick_or, Bool.and_eq_true, Bool.or_eq_true, Bool.and_eq_false_iff, Bool.or_eq_false_iff, ne_eq, not_false_eq_true, Bool.not_eq_true', Bool.not_eq_false', reduceCtorEq, Nat.le_refl, Nat.zero_mul, Nat.mul_one, Nat.zero_add, Int.reduceToNat, ones, one, add_mk, Decidable.not_not, cond_true, cond_false, true_implies, false_implies, implies_true, Bool.not_true, Bool.not_false]
  rw [show IntKind.i64.wrap ((fs.n : Int) - 1) = ((A.length : Nat) : Int) by rw [wrap_i64 (by omega) (by omega)]; omega]
  refine ⟨(frame_in h).mono ?_⟩
  rintro e w' ⟨rfl, hq⟩
  exact ⟨⟨some ⟨gr, used A, none⟩, words - used A, words - used A⟩, rfl, rfl, hq⟩
theorem top_out (h : StkAt w g gr words fs cs []) :
    Calls Try.prog 30 #[.pointer (some ⟨g, 0, none⟩)] w fun e w' =>
      e = .returned (.slice none 0 0) ∧ Qt w w' := by
  refine vc_30 _ _ _ ?_
  have hb := h.hd
  have hn := h.lenS
  simp only [eq_self, true_and, and_true, decide_eq_true_eq, decide_eq_false_iff_not, gd_st, gd_sf, exists_eq_left', exists_eq_left, Option.some.injEq, Sl.eta, Nat.reduceLeDiff, Int.reduceLE, Int.reduceLT, Int.reduceEq, Int.reduceNe, Nat.reduceMul, Nat.reduceAdd, Nat.reduceSub, Int.toNat_natCast, beq_iff_eq, bne_iff_ne, beq_eq_false_iff_ne, bne_eq_false_iff_eq, pick_and, pick_or, Bool.and_eq_true, Bool.or_eq_true, Bool.and_eq_false_iff, Bool.or_eq_false_iff, ne_eq, not_false_eq_true, Bool.not_eq_true', Bool.not_eq_false', reduceCtorEq, Nat.le_refl, Nat.zero_mul, Nat.mul_one, Nat.zero_add, Int.reduceToNat, ones, one, add_mk, Decidable.not_not, cond_true, cond_false, true_implies, false_implies, implies_true, Bool.not_true, Bool.not_false]
  simp only [hb.cell, List.getElem?_cons_zero, List.getElem?_cons_succ, ex_sl, Value.int.injEq, Value.bool.injEq, Value.pointer.injEq, Value.string.injEq, eq_self, true_and, and_true, decide_eq_true_eq, decide_eq_false_iff_not, gd_st, gd_sf, exists_eq_left', exists_eq_left, Option.some.injEq, Sl.eta, Nat.reduceLeDiff, Int.reduceLE, Int.reduceLT, Int.reduceEq, Int.reduceNe, Nat.reduceMul, Nat.reduceAdd, Nat.reduceSub, Int.toNat_natCast, beq_iff_eq, bne_iff_ne, beq_eq_false_iff_ne, bne_eq_false_iff_eq, pick_and, pick_or, Bool.and_eq_true, Bool.or_eq_true, Bool.and_eq_false_iff, Bool.or_eq_false_iff, ne_eq, not_false_eq_true, Bool.not_eq_true', Bool.not_eq_false', reduceCtorEq, Nat.le_refl, Nat.zero_mul, Nat.mul_one, Nat.zero_add, Int.reduceToNat, ones, one, add_mk, Decidable.not_not, cond_true, cond_false, true_implies, false_implies, implies_true, Bool.not_true, Bool.not_false]
  rw [show IntKind.i64.wrap ((fs.n : Int) - 1) = -1 by rw [hn]; rfl]
  refine ⟨(frame_out h _ (.inl (by omega))).mono ?_⟩
  rintro e w' ⟨rfl, hq⟩
  exact ⟨⟨none, 0, 0⟩, rfl, rfl, hq⟩
theorem locals_spec (h : StkAt w g gr words fs cs L) (o n : Nat) (hf : FrAt cs o f) (hn : 1 < n) :
    Calls Try.prog 31 #[.slice (some ⟨gr, o, none⟩) n n] w fun e w' =>
      e = .returned (.int .i64 (f.ls.length : Nat)) ∧ Qt w w' := by
  refine vc_31 ⟨_, _, _⟩ _ _ ?_
  have hk := hf.ok.ls
  have hi := hf.ok.hi
  simp only [eq_self, true_and, and_true, decide_eq_true_eq, decide_eq_false_iff_not, gd_st, gd_sf, exists_eq_left', exists_eq_left, Option.some.injEq, Sl.eta, Nat.reduceLeDiff, Int.reduceLE, Int.reduceLT, Int.reduceEq, Int.reduceNe, Nat.reduceMul, Nat.reduceAdd, Nat.reduceSub, Int.toNat_natCast, beq_iff_eq, bne_iff_ne, beq_eq_false_iff_ne, bne_eq_false_iff_eq, pick_and, pick_or, Bool.and_eq_true, Bool.or_eq_true, Bool.and_eq_false_iff, Bool.or_eq_false_iff, ne_eq, not_false_eq_true, Bool.not_eq_true', Bool.not_eq_false', reduceCtorEq, Nat.le_refl, Nat.zero_mul, Nat.mul_one, Nat.zero_add, Int.reduceToNat, ones, one, add_mk, Decidable.not_not, cond_true, cond_false, true_implies, false_implies, implies_true, Bool.not_true, Bool.not_false]
  refine ⟨by omega, _, h.cellAt hf.sh, ?_, Qt.refl w⟩
  rw [shr32, wrap_i64 (by omega) (by omega)]
  congr 3
  omega
end
end Go.Proofs.Ytodbmiflnellcaa.V
