/-
  Lists of types in memory; package types: there, object, wrong, Right; slices.Clone, slices.Equal.
-/
import Derived.Test.YtfppdkkbekkhbaaDoorVcT
import Derived.Test.YtfppdkkbekkhbaaDoorVcA
import Derived.Test.YtfppdkkbekkhbaaDoorTyA
namespace Go.Proofs.YtfppdkkbekkhbaaDoor.V.T
open Go Go.RowKit
set_option linter.unusedVariables false
set_option linter.unusedSimpArgs false

abbrev Tp := Ty × Sl
def tyRow (t : Tp) : List Value := [.int .i64 t.1.kind, .slice t.2.a t.2.n t.2.c, .int .i64 t.1.of]
def tyFlat : List Tp → List Value
  | [] => []
  | t :: T => tyRow t ++ tyFlat T
theorem tyFlat_append (A B : List Tp) : tyFlat (A ++ B) = tyFlat A ++ tyFlat B := by
  induction A with
  | nil => rfl
  | cons t A ih => simp [tyFlat, ih]
theorem tyFlat_len (T : List Tp) : (tyFlat T).length = T.length * 3 := by
  induction T with
  | nil => rfl
  | cons t T ih => simp [tyFlat, tyRow, ih]; omega
theorem tyFlat_get : ∀ (T : List Tp) (i j : Nat) (t : Tp), T[i]? = some t → j < 3 → (tyFlat T)[i * 3 + j]? = (tyRow t)[j]?
  | [], i, j, t, h, _ => by simp at h
  | x :: T, 0, j, t, h, hj => by
    simp at h; subst h
    rw [tyFlat, Nat.zero_mul, Nat.zero_add, List.getElem?_append_left (by simp [tyRow]; omega)]
  | x :: T, i + 1, j, t, h, hj => by
    rw [tyFlat, List.getElem?_append_right (by simp [tyRow]; omega)]
    have := tyFlat_get T i j t (by simpa using h) hj
    rw [← this]
    congr 1
    simp [tyRow]
    omega
theorem tyFlat_ones (T : List Tp) : ∀ v ∈ tyFlat T, one v := by
  induction T with
  | nil => intro v h; simp [tyFlat] at h
  | cons t T ih =>
    intro v h
    rw [tyFlat, List.mem_append] at h
    rcases h with h | h
    · simp only [tyRow, List.mem_cons, List.not_mem_nil, or_false] at h
      rcases h with rfl | rfl | rfl <;> trivial
    · exact ih v h
/-- a slice reads as types -/
structure Tys (w : World) (s : Sl) (T : List Tp) : Prop where
  row : Rd w 3 s (tyFlat T)
  parts : ∀ t ∈ T, Rd w 1 t.2 (iv t.1.parts)
section
variable {w w' : World} {S : Nat → Prop} {s : Sl} {T : List Tp} {i : Nat} {t : Tp}
theorem Tys.len (h : Tys w s T) : s.n = T.length := by
  have := h.row.1
  rw [tyFlat_len] at this
  omega
theorem Tys.cell (h : Tys w s T) (hi : T[i]? = some t) : ∃ p, s.a = some p ∧ ∀ (j : Nat) (v : Value), (tyRow t)[j]? = some v → w.cell? ((p.add (i * 3)).add j) = some v := by
  have hl := h.len
  have hlt := (List.getElem?_eq_some_iff.1 hi).1
  obtain ⟨p, hp, hc⟩ := h.row.2 (by omega)
  refine ⟨p, hp, fun j v hv => ?_⟩
  have hj : j < 3 := (List.getElem?_eq_some_iff.1 hv).1
  rw [add_add]
  exact hc _ _ (by rw [tyFlat_get T i j t hi hj]; exact hv)
theorem Tys.upd (h : Tys w s T) (u : Upd S w w') (ho : s.off S) (hp : ∀ t ∈ T, t.2.off S) : Tys w' s T := ⟨h.row.upd u ho, fun t ht => (h.parts t ht).upd u (hp t ht)⟩
theorem Tys.ext (h : Tys w s T) (u : Ext w w') : Tys w' s T := h.upd u (fun _ _ => not_false) fun _ _ _ _ => not_false
end
theorem getM {T : List Tp} {i : Nat} (hi : i < T.length) : ∃ t, T[i]? = some t ∧ t ∈ T ∧ (T.map (·.1))[i]? = some t.1 :=
  ⟨T[i], List.getElem?_eq_getElem hi, List.getElem_mem hi, by rw [List.getElem?_map, List.getElem?_eq_getElem hi]; rfl⟩

theorem rb {a b : Bool} (h : a = b) : Ending.returned (.bool a) = .returned (.bool b) := by rw [h]
theorem ri {k : IntKind} {a b : Int} (h : a = b) : Ending.returned (.int k a) = .returned (.int k b) := by rw [h]

theorem there_spec (l : Sl) (n : Int) (w : World) (hm : l.n ≤ 1000000000000000) :
    Calls Tryd.prog 70 #[.slice l.a l.n l.c, .int .i64 n] w fun e w' => e = .returned (.bool (decide (There l.n n))) ∧ w' = w := by
  refine vc_70 l n _ _ ?_
  simp only [eq_self, false_or, or_false, true_and, and_true, decide_eq_true_eq, decide_eq_false_iff_not, gd_st, gd_sf, exists_eq_left', exists_eq_left, Option.some.injEq, Sl.eta, Nat.reduceLeDiff, Int.reduceLE, Int.reduceLT, Int.reduceEq, Int.reduceNe, Nat.reduceMul, Nat.reduceAdd, Nat.reduceSub, Int.toNat_natCast, beq_iff_eq, bne_iff_ne, beq_eq_false_iff_ne, bne_eq_false_iff_eq, pick_and, pick_or, Bool.and_eq_true, Bool.or_eq_true, Bool.and_eq_false_iff, Bool.or_eq_false_iff, ne_eq, not_false_eq_true, Bool.not_eq_true', Bool.not_eq_false', reduceCtorEq, Nat.le_refl, Nat.zero_mul, Nat.mul_one, Nat.zero_add, Int.reduceToNat, ones, one, add_mk, Decidable.not_not, cond_true, cond_false, true_implies, false_implies, implies_true, Bool.not_true, Bool.not_false]
  rw [wrap_i64 (by omega) (by omega)]
  exact ⟨fun h => rb (by simp [There, h]), fun h => rb (by simp [There, h])⟩
theorem kindT_there {L : List Ty} {n : Int} (h1 : 1 < n) (h2 : There L.length n) : ∃ x, L[(n - 2).toNat]? = some x ∧ kindT L n = x.kind := by
  unfold There at h2
  have hi : (n - 2).toNat < L.length := by omega
  refine ⟨L[(n - 2).toNat], List.getElem?_eq_getElem hi, ?_⟩
  unfold kindT
  rw [if_neg (by omega), if_neg (by omega), List.getElem?_eq_getElem hi]
theorem kindT_not {L : List Ty} {n : Int} (h1 : 1 < n) (h2 : ¬ There L.length n) : kindT L n = -1 := by
  unfold There at h2
  unfold kindT
  rw [if_neg (by omega), if_neg (by omega), List.getElem?_eq_none (by omega)]
theorem object_spec {l : Sl} {T : List Tp} (n : Int) {w : World} (h : Tys w l T) (hm : T.length ≤ 1000000000000000) :
    Calls Tryd.prog 71 #[.slice l.a l.n l.c, .int .i64 n] w fun e w' => e = .returned (.bool (objT (T.map (·.1)) n)) ∧ w' = w := by
  refine vc_71 l n _ _ ?_
  have hl := h.len
  have hL : (T.map (·.1)).length = T.length := List.length_map ..
  simp only [eq_self, false_or, or_false, true_and, and_true, decide_eq_true_eq, decide_eq_false_iff_not, gd_st, gd_sf, exists_eq_left', exists_eq_left, Option.some.injEq, Sl.eta, Nat.reduceLeDiff, Int.reduceLE, Int.reduceLT, Int.reduceEq, Int.reduceNe, Nat.reduceMul, Nat.reduceAdd, Nat.reduceSub, Int.toNat_natCast, beq_iff_eq, bne_iff_ne, beq_eq_false_iff_ne, bne_eq_false_iff_eq, pick_and, pick_or, Bool.and_eq_true, Bool.or_eq_true, Bool.and_eq_false_iff, Bool.or_eq_false_iff, ne_eq, not_false_eq_true, Bool.not_eq_true', Bool.not_eq_false', reduceCtorEq, Nat.le_refl, Nat.zero_mul, Nat.mul_one, Nat.zero_add, Int.reduceToNat, ones, one, add_mk, Decidable.not_not, cond_true, cond_false, true_implies, false_implies, implies_true, Bool.not_true, Bool.not_false]
  refine ⟨fun h1 => ⟨(there_spec l n w (by omega)).mono ?_⟩, fun h1 => rb (by unfold objT; simp [h1])⟩
  rintro e w' ⟨rfl, rfl⟩
  refine ⟨_, rfl, fun hb => ?_, fun hb => ⟨rb ?_, rfl⟩⟩
  · have hb := of_decide_eq_true hb
    have hb' := hb
    unfold There at hb'
    rw [wrap_i64 (by omega) (by omega)]
    obtain ⟨x, hx, hk⟩ := kindT_there (L := T.map (·.1)) h1 (by rw [hL, ← hl]; exact hb)
    obtain ⟨t, ht, htm, hm⟩ := getM (T := T) (i := (n - 2).toNat) (by omega)
    rw [hx] at hm; injection hm with hm; subst hm
    obtain ⟨p, hp, hc⟩ := h.cell ht
    have hk0 := hc 0 _ rfl
    refine ⟨by omega, by omega, p, hp, _, hk0, fun h2 => ⟨by omega, by omega, p, hp, _, hk0, rb ?_, rfl⟩, fun h2 => ⟨rb ?_, rfl⟩⟩
    · unfold objT; rw [hk]; simp [h2, h1]
    · unfold objT; rw [hk]; simp [h2]
  · have hb := of_decide_eq_false hb
    rw [hl, ← hL] at hb
    unfold objT; rw [kindT_not h1 hb]; simp
section
variable {L : List Ty} {x : Ty}
theorem wrongT_6 (h : x.kind < 2 ∨ 5 < x.kind) : wrongT L x = 6 := by unfold wrongT; rw [if_pos h]
theorem wrongT_5 (h : (x.kind = 2 ∧ 12 < x.parts.length) ∨ (x.kind = 4 ∧ 6 < x.parts.length)) : wrongT L x = 5 := by
  unfold wrongT; rw [if_neg (by omega), if_pos h]
theorem wrongT_7 (h : x.kind = 3 ∨ x.kind = 5) (h' : x.parts ≠ []) : wrongT L x = 7 := by
  unfold wrongT; rw [if_neg (by omega), if_neg (by omega), if_pos ⟨h, h'⟩]
structure WOk (x : Ty) : Prop where
  kind : 2 ≤ x.kind ∧ x.kind ≤ 5
  few : x.kind = 2 → x.parts.length ≤ 12
  few4 : x.kind = 4 → x.parts.length ≤ 6
  none_ : x.kind = 3 ∨ x.kind = 5 → x.parts = []
theorem wrongT_parts (h : WOk x) (h' : ∃ p ∈ x.parts, ¬ There L.length p) : wrongT L x = 7 := by
  have h1 := h.kind; have h2 := h.few; have h3 := h.few4
  unfold wrongT; rw [if_neg (by omega), if_neg (by omega), if_neg (fun hh => hh.2 (h.none_ hh.1)), if_pos]
  intro hh
  obtain ⟨p, hp, hn⟩ := h'
  exact hn (hh p hp)
theorem wrongT_end (h : WOk x) (h' : ∀ p ∈ x.parts, There L.length p) : wrongT L x = if (x.kind = 2 ∧ x.of ≠ 0) ∨ (x.kind = 5 ∧ objT L x.of = false) ∨ ¬ There L.length x.of then 7 else 0 := by
  have h1 := h.kind; have h2 := h.few; have h3 := h.few4
  unfold wrongT; rw [if_neg (by omega), if_neg (by omega), if_neg (fun hh => hh.2 (h.none_ hh.1)), if_neg (fun hh => hh h')]
end
theorem wrong_spec {l : Sl} {T : List Tp} {x : Ty} {s : Sl} {w : World} (h : Tys w l T) (hs : Rd w 1 s (iv x.parts)) (hm : T.length ≤ 1000000000000000) (hp : x.parts.length ≤ 1000000000000000) :
    Calls Tryd.prog 57 #[.slice l.a l.n l.c, .agg #[.int .i64 x.kind, .slice s.a s.n s.c, .int .i64 x.of]] w fun e w' => e = .returned (.int .i64 (wrongT (T.map (·.1)) x)) ∧ Ext w w' := by
  refine vc_57 l x.kind s x.of _ _ ?_
  have hl := h.len
  have hL : (T.map (·.1)).length = T.length := List.length_map ..
  have hsl := hs.leni
  have hobj := fun (n : Int) (w' : World) (u : Ext w w') => object_spec n (h.ext u) hm
  generalize T.map (·.1) = L at *
  simp only [eq_self, false_or, or_false, true_and, and_true, decide_eq_true_eq, decide_eq_false_iff_not, gd_st, gd_sf, exists_eq_left', exists_eq_left, Option.some.injEq, Sl.eta, Nat.reduceLeDiff, Int.reduceLE, Int.reduceLT, Int.reduceEq, Int.reduceNe, Nat.reduceMul, Nat.reduceAdd, Nat.reduceSub, Int.toNat_natCast, beq_iff_eq, bne_iff_ne, beq_eq_false_iff_ne, bne_eq_false_iff_eq, pick_and, pick_or, Bool.and_eq_true, Bool.or_eq_true, Bool.and_eq_false_iff, Bool.or_eq_false_iff, ne_eq, not_false_eq_true, Bool.not_eq_true', Bool.not_eq_false', reduceCtorEq, Nat.le_refl, Nat.zero_mul, Nat.mul_one, Nat.zero_add, Int.reduceToNat, ones, one, add_mk, Decidable.not_not, cond_true, cond_false, true_implies, false_implies, implies_true, Bool.not_true, Bool.not_false]
  intro w1 n1
  have bk := Blk.new n1
  have x1 := n1.ext
  simp only [bk.cell, List.getElem?_cons_zero, List.getElem?_cons_succ, ex_sl, Value.int.injEq, Value.bool.injEq, Value.pointer.injEq, Value.string.injEq, eq_self, false_or, or_false, true_and, and_true, decide_eq_true_eq, decide_eq_false_iff_not, gd_st, gd_sf, exists_eq_left', exists_eq_left, Option.some.injEq, Sl.eta, Nat.reduceLeDiff, Int.reduceLE, Int.reduceLT, Int.reduceEq, Int.reduceNe, Nat.reduceMul, Nat.reduceAdd, Nat.reduceSub, Int.toNat_natCast, beq_iff_eq, bne_iff_ne, beq_eq_false_iff_ne, bne_eq_false_iff_eq, pick_and, pick_or, Bool.and_eq_true, Bool.or_eq_true, Bool.and_eq_false_iff, Bool.or_eq_false_iff, ne_eq, not_false_eq_true, Bool.not_eq_true', Bool.not_eq_false', reduceCtorEq, Nat.le_refl, Nat.zero_mul, Nat.mul_one, Nat.zero_add, Int.reduceToNat, ones, one, add_mk, Decidable.not_not, cond_true, cond_false, true_implies, false_implies, implies_true, Bool.not_true, Bool.not_false]
  have e5 : x.parts = [] → x.parts.length = 0 := fun h => by rw [h]; rfl
  have e6 : x.parts.length = 0 → x.parts = [] := List.eq_nil_of_length_eq_zero
  refine ⟨fun m w' => w' = w1 ∧ 2 ≤ x.kind ∧ x.kind ≤ 5 ∧ ((x.kind = 2 ∧ m = 12) ∨ (x.kind = 4 ∧ m = 6) ∨ ((x.kind = 3 ∨ x.kind = 5) ∧ x.parts.length = 0 ∧ m = 0)), ?_, ?_⟩
  · refine ⟨fun h2 => ⟨rfl, by omega, by omega, .inl ⟨h2, rfl⟩⟩, fun h2 => ⟨fun h4 => ⟨rfl, by omega, by omega, .inr (.inl ⟨h4, rfl⟩)⟩, fun h4 => ⟨fun h3 => ⟨fun _ => ⟨fun hn => ⟨?_, x1⟩, fun hn => ⟨rfl, by omega, by omega, .inr (.inr ⟨.inl h3, by omega, rfl⟩)⟩⟩, fun hn => (hn h3).elim⟩,
      fun h3 => ⟨fun h5 => ⟨fun hn => ⟨?_, x1⟩, fun hn => ⟨rfl, by omega, by omega, .inr (.inr ⟨.inr h5, by omega, rfl⟩)⟩⟩, fun h5 => ⟨?_, x1⟩⟩⟩⟩⟩
    · exact ri (wrongT_7 (.inl h3) fun h => by have := e5 h; omega).symm
    · exact ri (wrongT_7 (.inr h5) fun h => by have := e5 h; omega).symm
    · exact ri (wrongT_6 (by omega)).symm
  · rintro _ m w2 ⟨rfl, k2, k5, hm'⟩
    simp only [bk.cell, List.getElem?_cons_zero, List.getElem?_cons_succ, ex_sl, Value.int.injEq, Value.bool.injEq, Value.pointer.injEq, Value.string.injEq, eq_self, false_or, or_false, true_and, and_true, decide_eq_true_eq, decide_eq_false_iff_not, gd_st, gd_sf, exists_eq_left', exists_eq_left, Option.some.injEq, Sl.eta, Nat.reduceLeDiff, Int.reduceLE, Int.reduceLT, Int.reduceEq, Int.reduceNe, Nat.reduceMul, Nat.reduceAdd, Nat.reduceSub, Int.toNat_natCast, beq_iff_eq, bne_iff_ne, beq_eq_false_iff_ne, bne_eq_false_iff_eq, pick_and, pick_or, Bool.and_eq_true, Bool.or_eq_true, Bool.and_eq_false_iff, Bool.or_eq_false_iff, ne_eq, not_false_eq_true, Bool.not_eq_true', Bool.not_eq_false', reduceCtorEq, Nat.le_refl, Nat.zero_mul, Nat.mul_one, Nat.zero_add, Int.reduceToNat, ones, one, add_mk, Decidable.not_not, cond_true, cond_false, true_implies, false_implies, implies_true, Bool.not_true, Bool.not_false]
    refine ⟨fun hlt => ⟨ri (wrongT_5 (by omega)).symm, x1⟩, fun hlt => ?_⟩
    have wok : WOk x := ⟨⟨k2, k5⟩, by omega, by omega, fun hh => e6 (by omega)⟩
    refine ⟨fun n w' => w' = w2 ∧ 0 ≤ n ∧ n ≤ x.parts.length ∧ ∀ (j : Nat) (p : Int), j < n.toNat → x.parts[j]? = some p → There L.length p, fun n _ => (x.parts.length - n).toNat, ⟨rfl, by omega, by omega, fun j p hj => by simp at hj⟩, ?_⟩
    rintro _ n w3 ⟨rfl, n0, n1', hn⟩
    refine ⟨fun hlt => ?_, fun hge => ?_⟩
    · obtain ⟨p, v, hp, hv, hc⟩ := (hs.ext x1).intl n.toNat (by omega)
      rw [Nat.mul_one] at hc
      refine ⟨n0, hlt, p, hp, v, hc, ⟨(there_spec l v w3 (by omega)).mono ?_⟩⟩
      rintro e w4 ⟨rfl, rfl⟩
      refine ⟨_, rfl, fun hb => ⟨ri (wrongT_parts wok ⟨v, List.mem_of_getElem? hv, ?_⟩).symm, x1⟩, fun hb => ⟨⟨rfl, ?_, ?_, ?_⟩, ?_⟩⟩
      · have := of_decide_eq_false hb
        rw [hL, ← hl]; exact this
      · rw [wrap_i64 (by omega) (by omega)]; omega
      · rw [wrap_i64 (by omega) (by omega)]; omega
      · rw [wrap_i64 (by omega) (by omega)]
        intro j q hj hq
        by_cases hjn : j = n.toNat
        · subst hjn
          rw [hv] at hq; injection hq with hq; subst hq
          have := of_decide_eq_true hb
          rw [hL, ← hl]; exact this
        · exact hn j q (by omega) hq
      · dsimp only
        rw [wrap_i64 (by omega) (by omega)]; omega
    · have hall : ∀ p ∈ x.parts, There L.length p := fun p hp => by
        obtain ⟨j, hj, rfl⟩ := List.getElem_of_mem hp
        exact hn j _ (by omega) (List.getElem?_eq_getElem hj)
      have hend := wrongT_end wok hall
      simp only [bk.cell, List.getElem?_cons_zero, List.getElem?_cons_succ, ex_sl, Value.int.injEq, Value.bool.injEq, Value.pointer.injEq, Value.string.injEq, eq_self, false_or, or_false, true_and, and_true, decide_eq_true_eq, decide_eq_false_iff_not, gd_st, gd_sf, exists_eq_left', exists_eq_left, Option.some.injEq, Sl.eta, Nat.reduceLeDiff, Int.reduceLE, Int.reduceLT, Int.reduceEq, Int.reduceNe, Nat.reduceMul, Nat.reduceAdd, Nat.reduceSub, Int.toNat_natCast, beq_iff_eq, bne_iff_ne, beq_eq_false_iff_ne, bne_eq_false_iff_eq, pick_and, pick_or, Bool.and_eq_true, Bool.or_eq_true, Bool.and_eq_false_iff, Bool.or_eq_false_iff, ne_eq, not_false_eq_true, Bool.not_eq_true', Bool.not_eq_false', reduceCtorEq, Nat.le_refl, Nat.zero_mul, Nat.mul_one, Nat.zero_add, Int.reduceToNat, ones, one, add_mk, Decidable.not_not, cond_true, cond_false, true_implies, false_implies, implies_true, Bool.not_true, Bool.not_false]
      refine ⟨fun b w' => w' = w3 ∧ b = (decide (x.kind = 2) && (x.of != 0)), ⟨fun h2 => ⟨rfl, by simp [h2]⟩, fun h2 => ⟨rfl, by simp [h2]⟩⟩, ?_⟩
      rintro _ b w4 ⟨rfl, hbb⟩
      simp only [bk.cell, List.getElem?_cons_zero, List.getElem?_cons_succ, ex_sl, Value.int.injEq, Value.bool.injEq, Value.pointer.injEq, Value.string.injEq, eq_self, false_or, or_false, true_and, and_true, decide_eq_true_eq, decide_eq_false_iff_not, gd_st, gd_sf, exists_eq_left', exists_eq_left, Option.some.injEq, Sl.eta, Nat.reduceLeDiff, Int.reduceLE, Int.reduceLT, Int.reduceEq, Int.reduceNe, Nat.reduceMul, Nat.reduceAdd, Nat.reduceSub, Int.toNat_natCast, beq_iff_eq, bne_iff_ne, beq_eq_false_iff_ne, bne_eq_false_iff_eq, pick_and, pick_or, Bool.and_eq_true, Bool.or_eq_true, Bool.and_eq_false_iff, Bool.or_eq_false_iff, ne_eq, not_false_eq_true, Bool.not_eq_true', Bool.not_eq_false', reduceCtorEq, Nat.le_refl, Nat.zero_mul, Nat.mul_one, Nat.zero_add, Int.reduceToNat, ones, one, add_mk, Decidable.not_not, cond_true, cond_false, true_implies, false_implies, implies_true, Bool.not_true, Bool.not_false]
      refine ⟨fun hb => ?_, fun hb => ⟨fun h5 => ?_, fun h5 => ?_⟩⟩
      · rw [hb] at hbb
        have : x.kind = 2 ∧ x.of ≠ 0 := by simpa using hbb.symm
        refine ⟨fun _ => ⟨ri ?_, x1⟩, fun hf => by rw [hb] at hf; cases hf⟩
        rw [hend, if_pos (.inl this)]
      · refine ⟨(hobj x.of w4 x1).mono ?_⟩
        rintro e w5 ⟨rfl, rfl⟩
        refine ⟨_, rfl, fun ho => ⟨fun _ => ⟨ri ?_, x1⟩, fun ht => by rw [ho] at ht; cases ht⟩, fun ho => ?_⟩
        · rw [hend, if_pos (.inr (.inl ⟨h5, ho⟩))]
        · simp only [bk.cell, List.getElem?_cons_zero, List.getElem?_cons_succ, ex_sl, Value.int.injEq, Value.bool.injEq, Value.pointer.injEq, Value.string.injEq, eq_self, false_or, or_false, true_and, and_true, decide_eq_true_eq, decide_eq_false_iff_not, gd_st, gd_sf, exists_eq_left', exists_eq_left, Option.some.injEq, Sl.eta, Nat.reduceLeDiff, Int.reduceLE, Int.reduceLT, Int.reduceEq, Int.reduceNe, Nat.reduceMul, Nat.reduceAdd, Nat.reduceSub, Int.toNat_natCast, beq_iff_eq, bne_iff_ne, beq_eq_false_iff_ne, bne_eq_false_iff_eq, pick_and, pick_or, Bool.and_eq_true, Bool.or_eq_true, Bool.and_eq_false_iff, Bool.or_eq_false_iff, ne_eq, not_false_eq_true, Bool.not_eq_true', Bool.not_eq_false', reduceCtorEq, Nat.le_refl, Nat.zero_mul, Nat.mul_one, Nat.zero_add, Int.reduceToNat, ones, one, add_mk, Decidable.not_not, cond_true, cond_false, true_implies, false_implies, implies_true, Bool.not_true, Bool.not_false]
          refine ⟨(there_spec l x.of w5 (by omega)).mono ?_⟩
          rintro e w6 ⟨rfl, rfl⟩
          refine ⟨_, rfl, fun ht => ⟨ri ?_, x1⟩, fun ht => ⟨ri ?_, x1⟩⟩
          · have := of_decide_eq_false ht
            rw [hend, if_pos (.inr (.inr (by rw [hL, ← hl]; exact this)))]
          · have := of_decide_eq_true ht
            rw [hend, if_neg]
            rintro (hh | hh | hh)
            · omega
            · rw [ho] at hh; exact Bool.noConfusion hh.2
            · rw [hL, ← hl] at hh; exact hh this
      · refine ⟨(there_spec l x.of w4 (by omega)).mono ?_⟩
        rintro e w6 ⟨rfl, rfl⟩
        refine ⟨_, rfl, fun ht => ⟨ri ?_, x1⟩, fun ht => ⟨ri ?_, x1⟩⟩
        · have := of_decide_eq_false ht
          rw [hend, if_pos (.inr (.inr (by rw [hL, ← hl]; exact this)))]
        · have := of_decide_eq_true ht
          rw [hend, if_neg]
          rintro (hh | hh | hh)
          · rw [hb] at hbb
            simp [hh] at hbb
          · exact h5 hh.1
          · rw [hL, ← hl] at hh; exact hh this
theorem Right_spec {l : Sl} {T : List Tp} {w : World} (h : Tys w l T) (hp : ∀ t ∈ T, t.1.parts.length ≤ 1000000000000000) :
    Calls Tryd.prog 44 #[.slice l.a l.n l.c] w fun e w' => e = .returned (.tuple #[.int .i64 ((rightT (T.map (·.1))).1 : Nat), .int .i64 (rightT (T.map (·.1))).2]) ∧ Ext w w' := by
  refine vc_44 l _ _ ?_
  have hl := h.len
  have hL : (T.map (·.1)).length = T.length := List.length_map ..
  simp only [eq_self, false_or, or_false, true_and, and_true, decide_eq_true_eq, decide_eq_false_iff_not, gd_st, gd_sf, exists_eq_left', exists_eq_left, Option.some.injEq, Sl.eta, Nat.reduceLeDiff, Int.reduceLE, Int.reduceLT, Int.reduceEq, Int.reduceNe, Nat.reduceMul, Nat.reduceAdd, Nat.reduceSub, Int.toNat_natCast, beq_iff_eq, bne_iff_ne, beq_eq_false_iff_ne, bne_eq_false_iff_eq, pick_and, pick_or, Bool.and_eq_true, Bool.or_eq_true, Bool.and_eq_false_iff, Bool.or_eq_false_iff, ne_eq, not_false_eq_true, Bool.not_eq_true', Bool.not_eq_false', reduceCtorEq, Nat.le_refl, Nat.zero_mul, Nat.mul_one, Nat.zero_add, Int.reduceToNat, ones, one, add_mk, Decidable.not_not, cond_true, cond_false, true_implies, false_implies, implies_true, Bool.not_true, Bool.not_false]
  refine ⟨fun h60 => ⟨?_, Ext.refl w⟩, fun h60 => ?_⟩
  · unfold rightT
    rw [if_pos (by omega)]; rfl
  have hr : rightT (T.map (·.1)) = firstT (T.map (·.1)) (T.map (·.1)) 0 := by unfold rightT; rw [if_neg (by omega)]
  rw [hr]
  refine ⟨fun n w' => 0 ≤ n ∧ n ≤ T.length ∧ Ext w w' ∧ firstT (T.map (·.1)) (T.map (·.1)) 0 = firstT (T.map (·.1)) ((T.map (·.1)).drop n.toNat) n.toNat, fun n _ => (T.length - n).toNat, ⟨by omega, by omega, Ext.refl w, rfl⟩, ?_⟩
  rintro _ n w1 ⟨n0, n1, x1, hf⟩
  refine ⟨fun hlt => ?_, fun hge => ⟨?_, x1⟩⟩
  · obtain ⟨t, ht, htm, hmm⟩ := getM (T := T) (i := n.toNat) (by omega)
    obtain ⟨p, hp', hc⟩ := (h.ext x1).cell ht
    refine ⟨n0, hlt, p, hp', t.1.kind, t.2, t.1.of, rfl, ⟨hc 0 _ rfl, hc 1 _ rfl, hc 2 _ rfl⟩, ?_⟩
    intro w2 n2
    have b2 := Blk.new n2
    refine ⟨rfl, b2.canSetN 0 3 (by simp), ?_⟩
    intro w3 s3
    have b3 := s3.blk b2
    have x3 : Ext w1 w3 := n2.ext.fresh s3.upd (by rintro i rfl; exact Nat.le_refl _)
    simp only [setsL, List.set] at b3
    simp only [b3.cell, List.getElem?_cons_zero, List.getElem?_cons_succ, ex_sl, Value.int.injEq, Value.bool.injEq, Value.pointer.injEq, Value.string.injEq, eq_self, false_or, or_false, true_and, and_true, decide_eq_true_eq, decide_eq_false_iff_not, gd_st, gd_sf, exists_eq_left', exists_eq_left, Option.some.injEq, Sl.eta, Nat.reduceLeDiff, Int.reduceLE, Int.reduceLT, Int.reduceEq, Int.reduceNe, Nat.reduceMul, Nat.reduceAdd, Nat.reduceSub, Int.toNat_natCast, beq_iff_eq, bne_iff_ne, beq_eq_false_iff_ne, bne_eq_false_iff_eq, pick_and, pick_or, Bool.and_eq_true, Bool.or_eq_true, Bool.and_eq_false_iff, Bool.or_eq_false_iff, ne_eq, not_false_eq_true, Bool.not_eq_true', Bool.not_eq_false', reduceCtorEq, Nat.le_refl, Nat.zero_mul, Nat.mul_one, Nat.zero_add, Int.reduceToNat, ones, one, add_mk, Decidable.not_not, cond_true, cond_false, true_implies, false_implies, implies_true, Bool.not_true, Bool.not_false]
    refine ⟨_, t.2, _, rfl, ⟨rfl, rfl, rfl⟩, ⟨(wrong_spec ((h.ext x1).ext x3) (((h.ext x1).ext x3).parts t htm) (by omega) (hp t htm)).mono ?_⟩⟩
    rintro e w4 ⟨rfl, x4⟩
    have hdrop : (T.map (·.1)).drop n.toNat = t.1 :: (T.map (·.1)).drop (n.toNat + 1) := by
      have hi : n.toNat < (T.map (·.1)).length := by omega
      rw [List.getElem?_eq_getElem hi] at hmm
      injection hmm with hmm
      rw [← hmm]
      exact List.drop_eq_getElem_cons hi
    rw [hdrop] at hf
    have hx : Ext w w4 := (x1.trans x3).trans x4
    refine ⟨_, rfl, fun h5 => ⟨?_, hx⟩, fun h5 => ⟨⟨?_, ?_, hx, ?_⟩, ?_⟩⟩
    · rw [hf, firstT, if_neg h5, Int.toNat_of_nonneg n0]
    · rw [wrap_i64 (by omega) (by omega)]; omega
    · rw [wrap_i64 (by omega) (by omega)]; omega
    · rw [wrap_i64 (by omega) (by omega), hf, firstT, if_pos h5, show (n + 1).toNat = n.toNat + 1 by omega]
    · rw [wrap_i64 (by omega) (by omega)]; omega
  · rw [hf, List.drop_eq_nil_of_le (by omega)]; rfl

theorem _root_.Go.Proofs.YtfppdkkbekkhbaaDoor.V.Rd.none_ {w : World} {z : Nat} {s : Sl} {xs : List Value} (h : Rd w z s xs) (hs : s.a = none) : s.n = 0 ∧ xs = [] := by
  have h0 : s.n = 0 := by
    rcases Nat.eq_zero_or_pos s.n with h0 | h0
    · exact h0
    · obtain ⟨p, hp, _⟩ := h.2 h0
      rw [hs] at hp; cases hp
  exact ⟨h0, List.eq_nil_of_length_eq_zero (by rw [h.1, h0, Nat.zero_mul])⟩
theorem clone_spec {s : Sl} {xs : List Int} {w : World} (h : Rd w 1 s (iv xs)) (hm : s.n ≤ 1000000000000) :
    Calls Tryd.prog 43 #[.slice s.a s.n s.c] w fun e w' => ∃ r : Sl, e = .returned (.slice r.a r.n r.c) ∧ Own w' w.heap.size 3 1 r (iv xs) ∧ Ext w w' := by
  refine vc_43 s _ _ ?_
  simp only [eq_self, false_or, or_false, true_and, and_true, decide_eq_true_eq, decide_eq_false_iff_not, gd_st, gd_sf, exists_eq_left', exists_eq_left, Option.some.injEq, Sl.eta, Nat.reduceLeDiff, Int.reduceLE, Int.reduceLT, Int.reduceEq, Int.reduceNe, Nat.reduceMul, Nat.reduceAdd, Nat.reduceSub, Int.toNat_natCast, beq_iff_eq, bne_iff_ne, beq_eq_false_iff_ne, bne_eq_false_iff_eq, pick_and, pick_or, Bool.and_eq_true, Bool.or_eq_true, Bool.and_eq_false_iff, Bool.or_eq_false_iff, ne_eq, not_false_eq_true, Bool.not_eq_true', Bool.not_eq_false', reduceCtorEq, Nat.le_refl, Nat.zero_mul, Nat.mul_one, Nat.zero_add, Int.reduceToNat, ones, one, add_mk, Decidable.not_not, cond_true, cond_false, true_implies, false_implies, implies_true, Bool.not_true, Bool.not_false]
  refine ⟨fun hn => ?_, fun hn w1 n1 => ?_⟩
  · have := (h.none_ (by simpa using hn)).2
    rw [this]
    exact ⟨⟨none, 0, 0⟩, rfl, Own.nil .., Ext.refl w⟩
  · have o1 : Own w1 w.heap.size 3 1 ⟨some ⟨w.heap.size, 0, none⟩, 0, 0⟩ [] := Own.lit (cs := []) (n := 0) n1 (Nat.le_refl _) rfl (by omega)
    obtain ⟨r, w2, hr, hn2, o2, u2, hb⟩ := o1.append (t := 22) (ty := 22) tab_ok (by rfl) (by rfl) (by decide) (h.ext n1.ext) (iv_ones _) (by show (0 + s.n) * 8 ≤ _; omega) (by show 0 + s.n ≤ _; omega) n1.ext.size
    refine ⟨r, w2, hr, r, rfl, o2, n1.ext.fresh u2 ?_⟩
    rintro i ⟨p, hp, rfl⟩
    injection hp with hp; subst hp
    exact Nat.le_refl _
end Go.Proofs.YtfppdkkbekkhbaaDoor.V.T
