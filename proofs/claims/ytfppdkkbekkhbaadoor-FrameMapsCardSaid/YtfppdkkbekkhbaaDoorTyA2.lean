/-
  A table of types in memory; goes, IndexFunc over its types, Equal.
-/
import Derived.Test.YtfppdkkbekkhbaaDoorTyA1
import Derived.Test.YtfppdkkbekkhbaaDoorOwn2
namespace Go.Proofs.YtfppdkkbekkhbaaDoor.V.T
open Go Go.RowKit
set_option linter.unusedVariables false
set_option linter.unusedSimpArgs false

def nv (c : List Nat) : List Value := c.map fun (n : Nat) => Value.int .i64 (n : Int)
theorem nv_iv (c : List Nat) : nv c = iv (c.map fun (n : Nat) => (n : Int)) := by simp [nv, iv]
@[simp] theorem nv_length (c : List Nat) : (nv c).length = c.length := by simp [nv]
theorem nv_ones (c : List Nat) : ∀ v ∈ nv c, one v := by
  intro v h
  obtain ⟨x, _, rfl⟩ := List.mem_map.1 h
  trivial
theorem nv_set (c : List Nat) (i x : Nat) : (nv c).set i (.int .i64 x) = nv (c.set i x) := by simp [nv]
theorem cl_get {c : List Nat} {i : Nat} (h : i < c.length) : c[i]? = some (cl c i) := by simp [cl, List.getD_eq_getElem?_getD, List.getElem?_eq_getElem h]
theorem cl_set {c : List Nat} {i x j : Nat} (h : i < c.length) : cl (c.set i x) j = if i = j then x else cl c j := by
  unfold cl
  simp only [List.getD_eq_getElem?_getD, List.getElem?_set]
  split
  · rename_i e; subst e; simp [h]
  · rfl
theorem _root_.Go.Proofs.YtfppdkkbekkhbaaDoor.V.Rd.natAt {w : World} {s : Sl} {c : List Nat} (h : Rd w 1 s (nv c)) {i : Nat} (hi : i < c.length) : ∃ p, s.a = some p ∧ w.cell? (p.add i) = some (.int .i64 (cl c i : Nat)) := by
  have hl := h.len1
  rw [nv_length] at hl
  obtain ⟨p, v, hp, hv, hc⟩ := h.at1 i (by omega)
  rw [nv, List.getElem?_map, cl_get hi] at hv
  injection hv with hv
  subst hv
  exact ⟨p, hp, hc⟩

structure TyOwn (w : World) (B : Nat) (s : Sl) (T : List Tp) : Prop where
  row : Own w B 62 3 s (tyFlat T)
  parts : ∀ t ∈ T, Own w B 3 1 t.2 (iv t.1.parts)
/-- a table: its types, and of each the least type of its class -/
structure Tbl (w : World) (B g : Nat) (T : List Tp) (sa sl : Sl) (c : List Nat) : Prop where
  hd : Blk w g 64 [.slice sa.a sa.n sa.c, .slice sl.a sl.n sl.c]
  base : B ≤ g
  ty : TyOwn w B sa T
  like : Own w B 3 1 sl (nv c)
section
variable {w w' : World} {B B' g : Nat} {S : Nat → Prop} {s sa sl : Sl} {T : List Tp} {c : List Nat} {t : Tp} {i : Nat}
theorem TyOwn.tys (h : TyOwn w B s T) : Tys w s T := ⟨h.row.rd, fun t ht => (h.parts t ht).rd⟩
theorem own_off {e z : Nat} {xs : List Value} (h : Own w B e z s xs) (hS : ∀ k, S k → k < B ∨ w.heap.size ≤ k) : s.off S := fun p hp hk => by
  have := h.base p hp
  rcases hS _ hk with h' | h' <;> omega
theorem TyOwn.upd (h : TyOwn w B s T) (u : Upd S w w') (hS : ∀ k, S k → k < B ∨ w.heap.size ≤ k) : TyOwn w' B s T :=
  ⟨h.row.upd u (own_off h.row hS), fun t ht => (h.parts t ht).upd u (own_off (h.parts t ht) hS)⟩
theorem TyOwn.ext (h : TyOwn w B s T) (u : Ext w w') : TyOwn w' B s T := h.upd u fun _ => False.elim
theorem TyOwn.mono (h : TyOwn w B s T) (hB : B' ≤ B) : TyOwn w B' s T := ⟨h.row.mono hB, fun t ht => (h.parts t ht).mono hB⟩
theorem Tbl.upd (h : Tbl w B g T sa sl c) (u : Upd S w w') (hS : ∀ k, S k → k < B ∨ w.heap.size ≤ k) : Tbl w' B g T sa sl c :=
  ⟨h.hd.upd u fun hk => by have := h.base; have := h.hd.lt; rcases hS _ hk with h' | h' <;> omega, h.base, h.ty.upd u hS, h.like.upd u (own_off h.like hS)⟩
theorem Tbl.ext (h : Tbl w B g T sa sl c) (u : Ext w w') : Tbl w' B g T sa sl c := h.upd u fun _ => False.elim
theorem Tbl.len (h : Tbl w B g T sa sl c) : sa.n = T.length := h.ty.tys.len
theorem Tbl.likeLen (h : Tbl w B g T sa sl c) : sl.n = c.length := by have := h.like.len1; simpa using this.symm
end

theorem equal_spec {w : World} {a b : Sl} {xs ys : List Int} (h1 : Rd w 1 a (iv xs)) (h2 : Rd w 1 b (iv ys)) (hm : xs.length ≤ 1000000000000000) :
    Calls Tryd.prog 37 #[.slice a.a a.n a.c, .slice b.a b.n b.c] w fun e w' => e = .returned (.bool (decide (xs = ys))) ∧ Qt w w' := by
  refine vc_37 _ _ _ _ ?_
  have l1 := h1.leni
  have l2 := h2.leni
  simp only [eq_self, false_or, or_false, true_and, and_true, decide_eq_true_eq, decide_eq_false_iff_not, gd_st, gd_sf, exists_eq_left', exists_eq_left, Option.some.injEq, Sl.eta, Nat.reduceLeDiff, Int.reduceLE, Int.reduceLT, Int.reduceEq, Int.reduceNe, Nat.reduceMul, Nat.reduceAdd, Nat.reduceSub, Int.toNat_natCast, beq_iff_eq, bne_iff_ne, beq_eq_false_iff_ne, bne_eq_false_iff_eq, pick_and, pick_or, Bool.and_eq_true, Bool.or_eq_true, Bool.and_eq_false_iff, Bool.or_eq_false_iff, ne_eq, not_false_eq_true, Bool.not_eq_true', Bool.not_eq_false', reduceCtorEq, Nat.le_refl, Nat.zero_mul, Nat.mul_one, Nat.zero_add, Int.reduceToNat, ones, one, add_mk, Decidable.not_not, cond_true, cond_false, true_implies, false_implies, implies_true, Bool.not_true, Bool.not_false]
  refine ⟨fun h => ⟨rb (decide_eq_false fun e => by subst e; omega).symm, Qt.refl w⟩, fun h => ⟨fun n w' => 0 ≤ n ∧ n ≤ xs.length ∧ Qt w w' ∧ ∀ j, j < n.toNat → xs[j]? = ys[j]?, fun n _ => (xs.length - n).toNat, ⟨by omega, by omega, Qt.refl w, fun j hj => by simp at hj⟩, ?_⟩⟩
  rintro _ n w1 ⟨n0, n1, q1, hj⟩
  refine ⟨fun hn => ?_, fun hn => ⟨rb (decide_eq_true ?_).symm, q1⟩⟩
  · obtain ⟨p, x, hp, hx, hc⟩ := (h1.ext q1.ext).intl n.toNat (by omega)
    obtain ⟨q, y, hq, hy, hd⟩ := (h2.ext q1.ext).intl n.toNat (by omega)
    rw [Nat.mul_one] at hc hd
    refine ⟨n0, hn, p, hp, x, hc, n0, by omega, q, hq, y, hd, fun w2 q2 => ⟨fun hne => ⟨rb (decide_eq_false fun e => ?_).symm, q1.trans q2⟩, fun he => ⟨⟨?_, ?_, q1.trans q2, ?_⟩, ?_⟩⟩⟩
    · subst e
      rw [hx] at hy; injection hy with hy; exact hne hy
    · rw [wrap_i64 (by omega) (by omega)]; omega
    · rw [wrap_i64 (by omega) (by omega)]; omega
    · rw [wrap_i64 (by omega) (by omega)]
      intro j hjn
      by_cases e : j = n.toNat
      · subst e; rw [hx, hy, he]
      · exact hj j (by omega)
    · (first | (rw [wrap_i64 (by omega) (by omega)]; omega) | (dsimp only; rw [wrap_i64 (by omega) (by omega)]; omega) | (dsimp only; omega))
  · apply List.ext_getElem?
    intro j
    by_cases hjn : j < n.toNat
    · exact hj j hjn
    · rw [List.getElem?_eq_none (by omega), List.getElem?_eq_none (by omega)]

theorem goes_spec {w : World} {B g : Nat} {T : List Tp} {sa sl : Sl} {c : List Nat} (h : Tbl w B g T sa sl c) (hc : c.length = T.length) (hT : T.length ≤ 1000) (ok : ∀ x ∈ T.map (·.1), AllOk (T.map (·.1)) x)
    {a b : Nat} {x y : Tp} (ha : T[a]? = some x) (hb : T[b]? = some y) (hl : x.1.parts.length = y.1.parts.length) :
    Calls Tryd.prog 60 #[.pointer (some ⟨g, 0, none⟩), .int .i64 (a : Nat), .int .i64 (b : Nat)] w fun e w' => ∃ r : Bool, e = .returned (.bool r) ∧ (r = true ↔ goesP c x.1 y.1) ∧ Qt w w' := by
  refine vc_60 _ _ _ _ _ ?_
  have hlen := h.len
  have hll := h.likeLen
  have hd := h.hd
  have la := (List.getElem?_eq_some_iff.1 ha).1
  have lb := (List.getElem?_eq_some_iff.1 hb).1
  obtain ⟨p, hp, hx⟩ := h.ty.tys.cell ha
  have ox := ok x.1 (List.mem_map_of_mem (List.mem_of_getElem? ha))
  have oy := ok y.1 (List.mem_map_of_mem (List.mem_of_getElem? hb))
  have hL : (T.map (·.1)).length = T.length := List.length_map ..
  generalize T.map (·.1) = A at *
  simp only [eq_self, false_or, or_false, true_and, and_true, decide_eq_true_eq, decide_eq_false_iff_not, gd_st, gd_sf, exists_eq_left', exists_eq_left, Option.some.injEq, Sl.eta, Nat.reduceLeDiff, Int.reduceLE, Int.reduceLT, Int.reduceEq, Int.reduceNe, Nat.reduceMul, Nat.reduceAdd, Nat.reduceSub, Int.toNat_natCast, beq_iff_eq, bne_iff_ne, beq_eq_false_iff_ne, bne_eq_false_iff_eq, pick_and, pick_or, Bool.and_eq_true, Bool.or_eq_true, Bool.and_eq_false_iff, Bool.or_eq_false_iff, ne_eq, not_false_eq_true, Bool.not_eq_true', Bool.not_eq_false', reduceCtorEq, Nat.le_refl, Nat.zero_mul, Nat.mul_one, Nat.zero_add, Int.reduceToNat, ones, one, add_mk, Decidable.not_not, cond_true, cond_false, true_implies, false_implies, implies_true, Bool.not_true, Bool.not_false]
  simp only [hd.cell, List.getElem?_cons_zero, List.getElem?_cons_succ, ex_sl, Value.int.injEq, Value.bool.injEq, Value.pointer.injEq, Value.string.injEq, eq_self, false_or, or_false, true_and, and_true, decide_eq_true_eq, decide_eq_false_iff_not, gd_st, gd_sf, exists_eq_left', exists_eq_left, Option.some.injEq, Sl.eta, Nat.reduceLeDiff, Int.reduceLE, Int.reduceLT, Int.reduceEq, Int.reduceNe, Nat.reduceMul, Nat.reduceAdd, Nat.reduceSub, Int.toNat_natCast, beq_iff_eq, bne_iff_ne, beq_eq_false_iff_ne, bne_eq_false_iff_eq, pick_and, pick_or, Bool.and_eq_true, Bool.or_eq_true, Bool.and_eq_false_iff, Bool.or_eq_false_iff, ne_eq, not_false_eq_true, Bool.not_eq_true', Bool.not_eq_false', reduceCtorEq, Nat.le_refl, Nat.zero_mul, Nat.mul_one, Nat.zero_add, Int.reduceToNat, ones, one, add_mk, Decidable.not_not, cond_true, cond_false, true_implies, false_implies, implies_true, Bool.not_true, Bool.not_false]
  refine ⟨by omega, by omega, p, hp, ?_⟩
  refine ⟨x.2, hx 1 _ rfl, ?_⟩
  have xm := List.mem_of_getElem? ha
  have ym := List.mem_of_getElem? hb
  have f1 := ox.few
  have hsx := (h.ty.tys.parts x xm).leni
  have hsy := (h.ty.tys.parts y ym).leni
  refine ⟨fun n w' => 0 ≤ n ∧ n ≤ x.1.parts.length ∧ Qt w w' ∧ ∀ (j : Nat) (p q : Int), j < n.toNat → x.1.parts[j]? = some p → y.1.parts[j]? = some q → cl c p.toNat = cl c q.toNat, fun n _ => (x.1.parts.length - n).toNat, ⟨by omega, by omega, Qt.refl w, fun j p q hj => by simp at hj⟩, ?_⟩
  rintro _ n w1 ⟨n0, n1, q1, hj⟩
  have h1 := h.ext q1.ext
  have hd1 := h1.hd
  simp only [hd1.cell, List.getElem?_cons_zero, List.getElem?_cons_succ, ex_sl, Value.int.injEq, Value.bool.injEq, Value.pointer.injEq, Value.string.injEq, eq_self, false_or, or_false, true_and, and_true, decide_eq_true_eq, decide_eq_false_iff_not, gd_st, gd_sf, exists_eq_left', exists_eq_left, Option.some.injEq, Sl.eta, Nat.reduceLeDiff, Int.reduceLE, Int.reduceLT, Int.reduceEq, Int.reduceNe, Nat.reduceMul, Nat.reduceAdd, Nat.reduceSub, Int.toNat_natCast, beq_iff_eq, bne_iff_ne, beq_eq_false_iff_ne, bne_eq_false_iff_eq, pick_and, pick_or, Bool.and_eq_true, Bool.or_eq_true, Bool.and_eq_false_iff, Bool.or_eq_false_iff, ne_eq, not_false_eq_true, Bool.not_eq_true', Bool.not_eq_false', reduceCtorEq, Nat.le_refl, Nat.zero_mul, Nat.mul_one, Nat.zero_add, Int.reduceToNat, ones, one, add_mk, Decidable.not_not, cond_true, cond_false, true_implies, false_implies, implies_true, Bool.not_true, Bool.not_false]
  obtain ⟨px, hpx, hx'⟩ := h1.ty.tys.cell ha
  obtain ⟨py, hpy, hy'⟩ := h1.ty.tys.cell hb
  rw [hp] at hpx hpy; injection hpx with hpx; injection hpy with hpy; subst hpx; subst hpy
  have x1 := hx' 1 _ rfl; have x2 := hx' 2 _ rfl
  have y1 := hy' 1 _ rfl; have y2 := hy' 2 _ rfl
  refine ⟨fun hn => ?_, fun hn => ?_⟩
  · obtain ⟨p1, u, hp1, hu, hcu⟩ := (h1.ty.tys.parts x xm).intl n.toNat (by omega)
    obtain ⟨p2, v, hp2, hv, hcv⟩ := (h1.ty.tys.parts y ym).intl n.toNat (by omega)
    rw [Nat.mul_one] at hcu hcv
    have ou := ox.parts u (List.mem_of_getElem? hu)
    have ov := oy.parts v (List.mem_of_getElem? hv)
    obtain ⟨pl, hpl, hlu⟩ := h1.like.rd.natAt (i := u.toNat) (by omega)
    obtain ⟨pl', hpl', hlv⟩ := h1.like.rd.natAt (i := v.toNat) (by omega)
    (rw [hpl] at hpl'; injection hpl' with hpl'; subst hpl')
    (repeat' (first | refine ⟨_, by assumption, ?_⟩ | refine ⟨by omega, ?_⟩ | refine ⟨by assumption, ?_⟩ | fail))
    intro w2 q2
    refine ⟨fun hne => ⟨false, rfl, ⟨fun hf => (by cases hf), fun hg => (hne ?_).elim⟩, q1.trans q2⟩, fun he => ⟨⟨?_, ?_, q1.trans q2, ?_⟩, ?_⟩⟩
    · have := hg.1 n.toNat u v hu hv
      omega
    · rw [wrap_i64 (by omega) (by omega)]; omega
    · rw [wrap_i64 (by omega) (by omega)]; omega
    · rw [wrap_i64 (by omega) (by omega)]
      intro j p' q' hjn hp' hq'
      by_cases e : j = n.toNat
      · subst e; rw [hu] at hp'; rw [hv] at hq'; injection hp' with hp'; injection hq' with hq'; subst hp'; subst hq'; omega
      · exact hj j p' q' (by omega) hp' hq'
    · (first | (rw [wrap_i64 (by omega) (by omega)]; omega) | (dsimp only; rw [wrap_i64 (by omega) (by omega)]; omega) | (dsimp only; omega))
  · have oo := ox.of
    have oo' := oy.of
    obtain ⟨pl, hpl, hlu⟩ := h1.like.rd.natAt (i := x.1.of.toNat) (by omega)
    obtain ⟨pl', hpl', hlv⟩ := h1.like.rd.natAt (i := y.1.of.toNat) (by omega)
    (rw [hpl] at hpl'; injection hpl' with hpl'; subst hpl')
    (repeat' (first | refine ⟨_, by assumption, ?_⟩ | refine ⟨by omega, ?_⟩ | refine ⟨by assumption, ?_⟩ | fail))
    intro w2 q2
    refine ⟨_, rfl, ?_, q1.trans q2⟩
    rw [beq_iff_eq]
    refine ⟨fun he => ⟨fun j p' q' hp' hq' => hj j p' q' ?_ hp' hq', by omega⟩, fun hg => by have := hg.2; omega⟩
    have := (List.getElem?_eq_some_iff.1 hp').1
    omega
end Go.Proofs.YtfppdkkbekkhbaaDoor.V.T
