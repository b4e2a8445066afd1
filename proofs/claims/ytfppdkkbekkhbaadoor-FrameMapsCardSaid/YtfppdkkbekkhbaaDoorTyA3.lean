/-
  classes: the first classes, the steps.
-/
import Derived.Test.YtfppdkkbekkhbaaDoorTyA2
namespace Go.Proofs.YtfppdkkbekkhbaaDoor.V.T
open Go Go.RowKit
set_option linter.unusedVariables false
set_option linter.unusedSimpArgs false

def SameK (x y : Ty) : Prop := x.kind = y.kind ∧ x.parts.length = y.parts.length
instance (x y : Ty) : Decidable (SameK x y) := inferInstanceAs (Decidable (_ ∧ _))
section
variable {w : World} {g b1 b2 i : Nat} {sa sl : Sl} {T : List Tp} {t : Tp}
theorem same_spec (hd : Blk w g 64 [.slice sa.a sa.n sa.c, .slice sl.a sl.n sl.c]) (hT : Tys w sa T) (h1 : Blk w b1 37 [.pointer (some ⟨g, 0, none⟩)]) (h2 : Blk w b2 3 [.int .i64 (i : Nat)])
    (hi : T[i]? = some t) {x : Ty} {s : Sl} (hs : Rd w 1 s (iv x.parts)) :
    Calls Tryd.prog 59 #[.agg #[.int .i64 x.kind, .slice s.a s.n s.c, .int .i64 x.of], .pointer (some ⟨b1, 0, none⟩), .pointer (some ⟨b2, 0, none⟩)] w fun e w' =>
      e = .returned (.bool (decide (SameK x t.1))) ∧ Ext w w' := by
  refine vc_59 _ _ _ _ _ _ _ ?_
  have hl := hT.len
  have li := (List.getElem?_eq_some_iff.1 hi).1
  have hsl := hs.leni
  simp only [eq_self, false_or, or_false, true_and, and_true, decide_eq_true_eq, decide_eq_false_iff_not, gd_st, gd_sf, exists_eq_left', exists_eq_left, Option.some.injEq, Sl.eta, Nat.reduceLeDiff, Int.reduceLE, Int.reduceLT, Int.reduceEq, Int.reduceNe, Nat.reduceMul, Nat.reduceAdd, Nat.reduceSub, Int.toNat_natCast, beq_iff_eq, bne_iff_ne, beq_eq_false_iff_ne, bne_eq_false_iff_eq, pick_and, pick_or, Bool.and_eq_true, Bool.or_eq_true, Bool.and_eq_false_iff, Bool.or_eq_false_iff, ne_eq, not_false_eq_true, Bool.not_eq_true', Bool.not_eq_false', reduceCtorEq, Nat.le_refl, Nat.zero_mul, Nat.mul_one, Nat.zero_add, Int.reduceToNat, ones, one, add_mk, Decidable.not_not, cond_true, cond_false, true_implies, false_implies, implies_true, Bool.not_true, Bool.not_false]
  intro w1 n1
  have e1 := n1.ext
  have bk := Blk.new n1
  have hd1 := hd.ext e1
  have h11 := h1.ext e1
  have h21 := h2.ext e1
  have hT1 := hT.ext e1
  simp only [bk.cell, h11.cell, h21.cell, hd1.cell, List.getElem?_cons_zero, List.getElem?_cons_succ, ex_sl, Value.int.injEq, Value.bool.injEq, Value.pointer.injEq, Value.string.injEq, eq_self, false_or, or_false, true_and, and_true, decide_eq_true_eq, decide_eq_false_iff_not, gd_st, gd_sf, exists_eq_left', exists_eq_left, Option.some.injEq, Sl.eta, Nat.reduceLeDiff, Int.reduceLE, Int.reduceLT, Int.reduceEq, Int.reduceNe, Nat.reduceMul, Nat.reduceAdd, Nat.reduceSub, Int.toNat_natCast, beq_iff_eq, bne_iff_ne, beq_eq_false_iff_ne, bne_eq_false_iff_eq, pick_and, pick_or, Bool.and_eq_true, Bool.or_eq_true, Bool.and_eq_false_iff, Bool.or_eq_false_iff, ne_eq, not_false_eq_true, Bool.not_eq_true', Bool.not_eq_false', reduceCtorEq, Nat.le_refl, Nat.zero_mul, Nat.mul_one, Nat.zero_add, Int.reduceToNat, ones, one, add_mk, Decidable.not_not, cond_true, cond_false, true_implies, false_implies, implies_true, Bool.not_true, Bool.not_false]
  obtain ⟨p, hp, hc⟩ := hT1.cell hi
  have c0 := hc 0 _ rfl; have c1 := hc 1 _ rfl
  have hst := (hT1.parts t (List.mem_of_getElem? hi)).leni
  (repeat' (first | refine ⟨_, by assumption, ?_⟩ | refine ⟨by omega, ?_⟩ | refine ⟨by assumption, ?_⟩ | fail))
  refine ⟨fun hk => ?_, fun hk w2 q2 => ⟨rb (decide_eq_false fun h => hk h.1).symm, e1.trans q2.ext⟩⟩
  (repeat' (first | refine ⟨_, by assumption, ?_⟩ | refine ⟨by omega, ?_⟩ | refine ⟨by assumption, ?_⟩ | fail))
  intro w2 q2
  refine ⟨rb ?_, e1.trans q2.ext⟩
  rw [Bool.eq_iff_iff, beq_iff_eq, decide_eq_true_eq]
  unfold SameK
  exact ⟨fun h => ⟨hk, by omega⟩, fun h => by have := h.2; omega⟩
theorem index_spec (hd : Blk w g 64 [.slice sa.a sa.n sa.c, .slice sl.a sl.n sl.c]) (hT : Tys w sa T) (h1 : Blk w b1 37 [.pointer (some ⟨g, 0, none⟩)]) (h2 : Blk w b2 3 [.int .i64 (i : Nat)])
    (hi : T[i]? = some t) (hm : T.length ≤ 1000) :
    Calls Tryd.prog 58 #[.slice sa.a sa.n sa.c, .func (.func 59) #[] #[.pointer (some ⟨b1, 0, none⟩), .pointer (some ⟨b2, 0, none⟩)]] w fun e w' =>
      ∃ (r : Nat) (u : Tp), e = .returned (.int .i64 (r : Nat)) ∧ T[r]? = some u ∧ r ≤ i ∧ SameK t.1 u.1 ∧ (∀ k z, T[k]? = some z → SameK t.1 z.1 → r ≤ k) ∧ Ext w w' := by
  refine vc_58 _ _ _ _ _ ?_
  have hl := hT.len
  have li := (List.getElem?_eq_some_iff.1 hi).1
  simp only [eq_self, false_or, or_false, true_and, and_true, decide_eq_true_eq, decide_eq_false_iff_not, gd_st, gd_sf, exists_eq_left', exists_eq_left, Option.some.injEq, Sl.eta, Nat.reduceLeDiff, Int.reduceLE, Int.reduceLT, Int.reduceEq, Int.reduceNe, Nat.reduceMul, Nat.reduceAdd, Nat.reduceSub, Int.toNat_natCast, beq_iff_eq, bne_iff_ne, beq_eq_false_iff_ne, bne_eq_false_iff_eq, pick_and, pick_or, Bool.and_eq_true, Bool.or_eq_true, Bool.and_eq_false_iff, Bool.or_eq_false_iff, ne_eq, not_false_eq_true, Bool.not_eq_true', Bool.not_eq_false', reduceCtorEq, Nat.le_refl, Nat.zero_mul, Nat.mul_one, Nat.zero_add, Int.reduceToNat, ones, one, add_mk, Decidable.not_not, cond_true, cond_false, true_implies, false_implies, implies_true, Bool.not_true, Bool.not_false]
  refine ⟨fun n w' => 0 ≤ n ∧ n ≤ i ∧ Ext w w' ∧ ∀ k z, k < n.toNat → T[k]? = some z → ¬ SameK z.1 t.1, fun n _ => (i - n).toNat, ⟨by omega, by omega, Ext.refl w, fun k z h => by simp at h⟩, ?_⟩
  rintro _ n w1 ⟨n0, n1, x1, hn⟩
  refine ⟨fun hlt => ?_, fun hge => by omega⟩
  obtain ⟨z, hz⟩ : ∃ z, T[n.toNat]? = some z := ⟨_, List.getElem?_eq_getElem (by omega)⟩
  have hT1 := hT.ext x1
  obtain ⟨p, hp, hc⟩ := hT1.cell hz
  have c0 := hc 0 _ rfl; have c1 := hc 1 _ rfl; have c2 := hc 2 _ rfl
  refine ⟨n0, hlt, p, hp, z.1.kind, z.2, z.1.of, rfl, ⟨c0, c1, c2⟩, ⟨(same_spec (hd.ext x1) hT1 (h1.ext x1) (h2.ext x1) hi (hT1.parts z (List.mem_of_getElem? hz))).mono ?_⟩⟩
  rintro e w2 ⟨rfl, x2⟩
  refine ⟨_, rfl, fun hb => ?_, fun hb => ?_⟩
  · have hs := of_decide_eq_true hb
    refine ⟨n.toNat, z, by rw [Int.toNat_of_nonneg n0], hz, by omega, ⟨hs.1.symm, hs.2.symm⟩, fun k y hy hk => ?_, x1.trans x2⟩
    rcases Nat.lt_or_ge k n.toNat with h | h
    · exact (hn k y h hy ⟨hk.1.symm, hk.2.symm⟩).elim
    · exact h
  · have hs := of_decide_eq_false hb
    have hne : n ≠ i := fun e => by
      subst e
      rw [Int.toNat_natCast, hi] at hz
      injection hz with hz; subst hz
      exact hs ⟨rfl, rfl⟩
    refine ⟨⟨?_, ?_, x1.trans x2, ?_⟩, ?_⟩
    · (first | (rw [wrap_i64 (by omega) (by omega)]; omega) | (dsimp only; rw [wrap_i64 (by omega) (by omega)]; omega) | (dsimp only; omega))
    · (first | (rw [wrap_i64 (by omega) (by omega)]; omega) | (dsimp only; rw [wrap_i64 (by omega) (by omega)]; omega) | (dsimp only; omega))
    · rw [wrap_i64 (by omega) (by omega)]
      intro k y hk hy
      by_cases e : k = n.toNat
      · subst e; rw [hz] at hy; injection hy with hy; subst hy; exact hs
      · exact hn k y (by omega) hy
    · (first | (rw [wrap_i64 (by omega) (by omega)]; omega) | (dsimp only; rw [wrap_i64 (by omega) (by omega)]; omega) | (dsimp only; omega))
end
/-! ### the classes -/
def likeOf (w : World) (g n : Nat) : List Nat :=
  match w.cell? ⟨g, 1, none⟩ with
  | some (.slice (some p) _ _) => (List.range n).map fun i => match w.cell? (p.add i) with
    | some (.int _ x) => x.toNat
    | _ => 0
  | _ => []
theorem likeOf_eq {w : World} {B g : Nat} {T : List Tp} {sa sl : Sl} {c : List Nat} (h : Tbl w B g T sa sl c) (hn : 0 < c.length) : likeOf w g c.length = c := by
  obtain ⟨p, hp, _⟩ := h.like.rd.natAt hn
  unfold likeOf
  rw [show w.cell? ⟨g, 1, none⟩ = some (.slice sl.a sl.n sl.c) from h.hd.cell 1, hp]
  apply List.ext_getElem
  · simp
  intro i h1 h2
  obtain ⟨p', hp', hc⟩ := h.like.rd.natAt h2
  rw [hp] at hp'; injection hp' with hp'; subst hp'
  simp only [List.getElem_map, List.getElem_range, hc]
  simp [cl, List.getD_eq_getElem?_getD, List.getElem?_eq_getElem h2]
/-- the least type of one kind and length with type i -/
def FirstAt (A : List Ty) (i r : Nat) : Prop := ∃ x y, A[i]? = some x ∧ A[r]? = some y ∧ r ≤ i ∧ x.kind = y.kind ∧ x.parts.length = y.parts.length ∧
  ∀ k z, A[k]? = some z → x.kind = z.kind → x.parts.length = z.parts.length → r ≤ k
theorem getMap {T : List Tp} {i : Nat} {t : Tp} (h : T[i]? = some t) : (T.map (·.1))[i]? = some t.1 := by rw [List.getElem?_map, h]; rfl
theorem getMap' {T : List Tp} {i : Nat} {x : Ty} (h : (T.map (·.1))[i]? = some x) : ∃ t, T[i]? = some t ∧ t.1 = x := by
  rw [List.getElem?_map, Option.map_eq_some_iff] at h
  exact h
theorem nv_inj {c d : List Nat} (h : nv c = nv d) : c = d := by
  have hl : c.length = d.length := by simpa using congrArg List.length h
  apply List.ext_getElem hl
  intro i h1 h2
  have := congrArg (·[i]?) h
  simp only [nv, List.getElem?_map, List.getElem?_eq_getElem h1, List.getElem?_eq_getElem h2, Option.map_some, Option.some.injEq, Value.int.injEq] at this
  omega
theorem nn_inj {c d : List Nat} (h : (c.map fun (n : Nat) => (n : Int)) = d.map fun (n : Nat) => (n : Int)) : c = d := by
  apply nv_inj
  rw [nv_iv, nv_iv, h]

theorem TyOwn.updG {w w' : World} {B g : Nat} {s : Sl} {T : List Tp} {cs : List Value} (h : TyOwn w B s T) (hd : Blk w g 64 cs) (u : Upd (· = g) w w') : TyOwn w' B s T :=
  ⟨h.row.upd u (own_blk_ne h.row hd (by decide)), fun t ht => (h.parts t ht).upd u (own_blk_ne (h.parts t ht) hd (by decide))⟩
set_option maxRecDepth 100000 in
theorem classes_spec {w : World} {B g : Nat} {T : List Tp} {sa sl0 : Sl} (hd : Blk w g 64 [.slice sa.a sa.n sa.c, .slice sl0.a sl0.n sl0.c]) (hB : B ≤ g) (hT : TyOwn w B sa T)
    (hm : T.length ≤ 100) (h0 : 0 < T.length) (ok : ∀ x ∈ T.map (·.1), AllOk (T.map (·.1)) x) :
    Calls Tryd.prog 45 #[.pointer (some ⟨g, 0, none⟩)] w fun e w' => e = .returned (.tuple #[]) ∧ Upd (· = g) w w' ∧
      ∃ sl c, Tbl w' B g T sa sl c ∧ Cls (T.map (·.1)) c ∧ Next (T.map (·.1)) c c (T.map (·.1)).length := by
  refine vc_45 _ _ _ ?_
  have hL : (T.map (·.1)).length = T.length := List.length_map ..
  have hl := hT.tys.len
  have hglt := hd.lt
  simp only [eq_self, false_or, or_false, true_and, and_true, decide_eq_true_eq, decide_eq_false_iff_not, gd_st, gd_sf, exists_eq_left', exists_eq_left, Option.some.injEq, Sl.eta, Nat.reduceLeDiff, Int.reduceLE, Int.reduceLT, Int.reduceEq, Int.reduceNe, Nat.reduceMul, Nat.reduceAdd, Nat.reduceSub, Int.toNat_natCast, beq_iff_eq, bne_iff_ne, beq_eq_false_iff_ne, bne_eq_false_iff_eq, pick_and, pick_or, Bool.and_eq_true, Bool.or_eq_true, Bool.and_eq_false_iff, Bool.or_eq_false_iff, ne_eq, not_false_eq_true, Bool.not_eq_true', Bool.not_eq_false', reduceCtorEq, Nat.le_refl, Nat.zero_mul, Nat.mul_one, Nat.zero_add, Int.reduceToNat, ones, one, add_mk, Decidable.not_not, cond_true, cond_false, true_implies, false_implies, implies_true, Bool.not_true, Bool.not_false]
  intro w1 n1 w2 q2
  have x2 : Ext w w2 := n1.ext.trans q2.ext
  have b2 : Blk w2 w.heap.size 37 [.pointer (some ⟨g, 0, none⟩)] := (Blk.new n1).ext q2.ext
  have hd2 := hd.ext x2
  have r1 : ∀ w', Ext w2 w' → w'.cell? ⟨w.heap.size, 0, none⟩ = some (.pointer (some ⟨g, 0, none⟩)) := fun _ u => (b2.ext u).cell 0
  have r2 : ∀ w', Ext w2 w' → w'.cell? ((⟨g, 0, none⟩ : Addr).add 0) = some (.slice sa.a sa.n sa.c) := fun _ u => (hd2.ext u).cell 0
  refine ⟨fun _ => False, _, r1, _, r1, _, rfl, sa, r2, ⟨by omega, Int.le_refl _, by omega, by omega⟩, ?_⟩
  intro w3 n3
  have x3 : Ext w w3 := x2.trans n3.ext
  have b3 := b2.ext n3.ext
  have hd3 := hd2.ext n3.ext
  refine ⟨n3.ext, _, rfl, ?_⟩
  rw [add_mk]
  refine ⟨hd3.canSet 1 (by simp), ?_⟩
  intro w4 s4
  have hd4 := s4.blk1 hd3
  simp only [List.set] at hd4
  have u4 := s4.upd
  have hgs : g ≠ w.heap.size := by omega
  have b4 := b3.upd u4 (fun h => hgs h.symm)
  have o3 : Own w3 w2.heap.size 3 1 ⟨some ⟨w2.heap.size, 0, none⟩, sa.n, sa.n⟩ (nv (List.replicate sa.n 0)) := by
    have := Own.made (B := w2.heap.size) (n := sa.n) n3 (Nat.le_refl _) (Nat.le_refl _) (by omega)
    rw [show nv (List.replicate sa.n 0) = List.replicate sa.n (.int .i64 0) by simp [nv]]
    exact this
  have hg2 : g < w2.heap.size := hd2.lt
  have o4 := o3.upd u4 (own_off o3 fun k hk => by subst hk; omega)
  have up4 : Upd (· = g) w w4 := x3.upd u4
  generalize hlk : (⟨some ⟨w2.heap.size, 0, none⟩, sa.n, sa.n⟩ : Sl) = lk at o4 hd4
  have hlk1 : lk.a = some ⟨w2.heap.size, 0, none⟩ := by rw [← hlk]
  have hlk2 : lk.n = sa.n := by rw [← hlk]
  simp only [b4.cell, hd4.cell, List.getElem?_cons_zero, List.getElem?_cons_succ, ex_sl, Value.int.injEq, Value.bool.injEq, Value.pointer.injEq, Value.string.injEq, eq_self, false_or, or_false, true_and, and_true, decide_eq_true_eq, decide_eq_false_iff_not, gd_st, gd_sf, exists_eq_left', exists_eq_left, Option.some.injEq, Sl.eta, Nat.reduceLeDiff, Int.reduceLE, Int.reduceLT, Int.reduceEq, Int.reduceNe, Nat.reduceMul, Nat.reduceAdd, Nat.reduceSub, Int.toNat_natCast, beq_iff_eq, bne_iff_ne, beq_eq_false_iff_ne, bne_eq_false_iff_eq, pick_and, pick_or, Bool.and_eq_true, Bool.or_eq_true, Bool.and_eq_false_iff, Bool.or_eq_false_iff, ne_eq, not_false_eq_true, Bool.not_eq_true', Bool.not_eq_false', reduceCtorEq, Nat.le_refl, Nat.zero_mul, Nat.mul_one, Nat.zero_add, Int.reduceToNat, ones, one, add_mk, Decidable.not_not, cond_true, cond_false, true_implies, false_implies, implies_true, Bool.not_true, Bool.not_false]
  refine ⟨fun n w' => ∃ c : List Nat, 0 ≤ n ∧ n ≤ T.length ∧ c.length = T.length ∧ (∀ i, i < n.toNat → FirstAt (T.map (·.1)) i (cl c i)) ∧ Upd (· = g) w w' ∧ Blk w' w.heap.size 37 [.pointer (some ⟨g, 0, none⟩)] ∧
      Blk w' g 64 [.slice sa.a sa.n sa.c, .slice lk.a lk.n lk.c] ∧ Own w' w2.heap.size 3 1 lk (nv c), fun n _ => (T.length - n).toNat, ⟨_, by omega, by omega, by simp; omega, fun i hi => by simp at hi, up4, b4, ?_, o4⟩, ?_⟩
  · rw [← hlk]; exact hd4
  have cs1 : ∀ {W : World} {s : Sl}, Blk W g 64 [.slice sa.a sa.n sa.c, .slice s.a s.n s.c] → (∀ w', Ext W w' → w'.cell? ((⟨g, 0, none⟩ : Addr).add 0) = some (.slice sa.a sa.n sa.c)) ∧
      (∀ w', Ext W w' → w'.cell? ((⟨g, 0, none⟩ : Addr).add 1) = some (.slice s.a s.n s.c)) := fun hb => ⟨fun _ u => (hb.ext u).cell 0, fun _ u => (hb.ext u).cell 1⟩
  have cb1 : ∀ {W : World}, Blk W w.heap.size 37 [.pointer (some ⟨g, 0, none⟩)] → ∀ w', Ext W w' → w'.cell? ⟨w.heap.size, 0, none⟩ = some (.pointer (some ⟨g, 0, none⟩)) := fun hb _ u => (hb.ext u).cell 0
  have hBw : B ≤ w.heap.size := by omega
  rintro _ n w5 ⟨c, n0, n1', hc, hf, u5, b5, hd5, o5⟩
  have hT5 : TyOwn w5 B sa T := hT.updG hd u5
  refine ⟨fun hlt => ?_, fun hge => ?_⟩
  · obtain ⟨k, rfl⟩ : ∃ k : Nat, n = k := ⟨n.toNat, by omega⟩
    rw [Int.toNat_natCast] at hf
    intro w6 n6
    have bk := Blk.new n6
    refine ⟨bk.canSet 0 (by simp), ?_⟩
    intro w7 s7 w8 q8
    have bk8 := (s7.blk1 bk).ext q8.ext
    simp only [List.set] at bk8
    have x8 : Ext w5 w8 := (n6.ext.fresh s7.upd (by rintro i rfl; exact Nat.le_refl _)).trans q8.ext
    have b8 := b5.ext x8
    have hd8 := hd5.ext x8
    have r1 := cb1 b8
    obtain ⟨r2, r3⟩ := cs1 hd8
    have r4 : ∀ w', Ext w8 w' → w'.cell? ⟨w5.heap.size, 0, none⟩ = some (.int .i64 (k : Nat)) := fun _ u => (bk8.ext u).cell 0
    obtain ⟨t, ht, htm, hmm⟩ := getM (T := T) (i := k) (by omega)
    refine ⟨fun _ => False, _, r1, _, rfl, lk, r3, _, r4, _, r1, _, rfl, sa, r2, ⟨(index_spec hd8 (hT5.ext x8).tys b8 bk8 ht (by omega)).mono ?_⟩⟩
    rintro e w9 ⟨r, u, rfl, hr, hri, hsk, hleast, x9⟩
    have o9 := (o5.ext x8).ext x9
    refine ⟨_, rfl, x9, by omega, by omega, ⟨w2.heap.size, 0, none⟩, hlk1, ?_, ?_⟩
    · rw [Int.toNat_natCast]
      exact o9.canAt hlk1 (by omega)
    · intro w10 s10
      rw [Int.toNat_natCast] at s10
      obtain ⟨o10, u10⟩ := o9.setAt hlk1 (by omega) s10
      dsimp only at u10
      rw [nv_set] at o10
      have hx9 : Ext w5 w9 := x8.trans x9
      refine ⟨⟨c.set k r, ?_, ?_, by simpa using hc, ?_, ?_, ?_, ?_, o10⟩, ?_⟩
      · (first | (rw [wrap_i64 (by omega) (by omega)]; omega) | (dsimp only; rw [wrap_i64 (by omega) (by omega)]; omega) | (dsimp only; omega))
      · (first | (rw [wrap_i64 (by omega) (by omega)]; omega) | (dsimp only; rw [wrap_i64 (by omega) (by omega)]; omega) | (dsimp only; omega))
      · rw [wrap_i64 (by omega) (by omega)]
        intro i hi
        by_cases e : i = k
        · subst e
          rw [cl_set (by omega), if_pos rfl]
          refine ⟨t.1, u.1, hmm, getMap hr, hri, hsk.1, hsk.2, fun k z hz e1 e2 => ?_⟩
          obtain ⟨z', hz', rfl⟩ := getMap' hz
          exact hleast k z' hz' ⟨e1, e2⟩
        · rw [cl_set (by omega), if_neg (fun h => e h.symm)]
          exact hf i (by omega)
      · exact (u5.ext hx9).fresh u10 fun i hi => .inl (by subst hi; have := x2.size; omega)
      · exact (b5.ext hx9).upd u10 (by have := b2.lt; omega)
      · exact (hd5.ext hx9).upd u10 (by omega)
      · (first | (rw [wrap_i64 (by omega) (by omega)]; omega) | (dsimp only; rw [wrap_i64 (by omega) (by omega)]; omega) | (dsimp only; omega))
  · have hnT : n = T.length := by omega
    subst hnT
    rw [Int.toNat_natCast] at hf
    have hc1 : Cls (T.map (·.1)) c := Cls.first (by omega) fun i x hx => by
      have hi := (List.getElem?_eq_some_iff.1 hx).1
      obtain ⟨x', y, hx', hy, h1, h2, h3, h4⟩ := hf i (by omega)
      rw [hx] at hx'; injection hx' with hx'; subst hx'
      exact ⟨y, hy, h1, h2, h3, h4⟩
    have hoff : w2.heap.size ≤ w5.heap.size := by have := u5.size; have := o5.base _ hlk1; omega
    refine ⟨fun w' => ∃ (c : List Nat) (sl : Sl), Upd (· = g) w w' ∧ Blk w' w.heap.size 37 [.pointer (some ⟨g, 0, none⟩)] ∧ Tbl w' B g T sa sl c ∧ Cls (T.map (·.1)) c,
      fun w' => room (likeOf w' g T.length) T.length, ⟨c, lk, u5, b5, ⟨hd5, hB, hT5, o5.mono (by have := x2.size; omega)⟩, hc1⟩, ?_⟩
    rintro _ w6 ⟨c, sl, u6, b6, t6, cl6⟩
    have hd6 := t6.hd
    have hcl : c.length = T.length := by rw [cl6.len, hL]
    have hmu : room (likeOf w6 g T.length) T.length = room c T.length := by rw [← hcl, likeOf_eq t6 (by omega)]
    simp only [b6.cell, hd6.cell, List.getElem?_cons_zero, List.getElem?_cons_succ, ex_sl, Value.int.injEq, Value.bool.injEq, Value.pointer.injEq, Value.string.injEq, eq_self, false_or, or_false, true_and, and_true, decide_eq_true_eq, decide_eq_false_iff_not, gd_st, gd_sf, exists_eq_left', exists_eq_left, Option.some.injEq, Sl.eta, Nat.reduceLeDiff, Int.reduceLE, Int.reduceLT, Int.reduceEq, Int.reduceNe, Nat.reduceMul, Nat.reduceAdd, Nat.reduceSub, Int.toNat_natCast, beq_iff_eq, bne_iff_ne, beq_eq_false_iff_ne, bne_eq_false_iff_eq, pick_and, pick_or, Bool.and_eq_true, Bool.or_eq_true, Bool.and_eq_false_iff, Bool.or_eq_false_iff, ne_eq, not_false_eq_true, Bool.not_eq_true', Bool.not_eq_false', reduceCtorEq, Nat.le_refl, Nat.zero_mul, Nat.mul_one, Nat.zero_add, Int.reduceToNat, ones, one, add_mk, Decidable.not_not, cond_true, cond_false, true_implies, false_implies, implies_true, Bool.not_true, Bool.not_false]
    refine ⟨by omega, ?_⟩
    intro w7 n7
    have x7 := n7.ext
    have b7 := b6.ext x7
    have t7 := t6.ext x7
    have hd7 := t7.hd
    simp only [b7.cell, hd7.cell, List.getElem?_cons_zero, List.getElem?_cons_succ, ex_sl, Value.int.injEq, Value.bool.injEq, Value.pointer.injEq, Value.string.injEq, eq_self, false_or, or_false, true_and, and_true, decide_eq_true_eq, decide_eq_false_iff_not, gd_st, gd_sf, exists_eq_left', exists_eq_left, Option.some.injEq, Sl.eta, Nat.reduceLeDiff, Int.reduceLE, Int.reduceLT, Int.reduceEq, Int.reduceNe, Nat.reduceMul, Nat.reduceAdd, Nat.reduceSub, Int.toNat_natCast, beq_iff_eq, bne_iff_ne, beq_eq_false_iff_ne, bne_eq_false_iff_eq, pick_and, pick_or, Bool.and_eq_true, Bool.or_eq_true, Bool.and_eq_false_iff, Bool.or_eq_false_iff, ne_eq, not_false_eq_true, Bool.not_eq_true', Bool.not_eq_false', reduceCtorEq, Nat.le_refl, Nat.zero_mul, Nat.mul_one, Nat.zero_add, Int.reduceToNat, ones, one, add_mk, Decidable.not_not, cond_true, cond_false, true_implies, false_implies, implies_true, Bool.not_true, Bool.not_false]
    have k7 : Blk w7 w6.heap.size 3 (nv (List.replicate sa.n 0)) := by
      have := Blk.new n7
      rw [zrow_one] at this
      rw [show nv (List.replicate sa.n 0) = List.replicate sa.n (.int .i64 0) by simp [nv]]
      exact this
    refine ⟨fun n w' => ∃ d : List Nat, 0 ≤ n ∧ n ≤ T.length ∧ Ext w6 w' ∧ Blk w' w6.heap.size 3 (nv d) ∧ Next (T.map (·.1)) c d n.toNat, fun n _ => (T.length - n).toNat,
      ⟨_, by omega, by omega, x7, k7, ⟨by simp; omega, fun i hi => by simp at hi⟩⟩, ?_⟩
    rintro _ n w8 ⟨d, m0, m1, x8, k8, hd⟩
    have t8 := t6.ext x8
    have b8 := b6.ext x8
    have hd8 := t8.hd
    have hdl : d.length = T.length := by rw [hd.len, hL]
    refine ⟨fun hlt => ?_, fun hge => ?_⟩
    · obtain ⟨i, rfl⟩ : ∃ i : Nat, n = i := ⟨n.toNat, by omega⟩
      rw [Int.toNat_natCast] at hd
      obtain ⟨ti, hti, _, hmi⟩ := getM (T := T) (i := i) (by omega)
      refine ⟨by omega, by omega, k8.canSet _ (by simp; omega), ?_⟩
      intro w9 s9
      rw [Int.toNat_natCast] at s9
      have k9 := s9.blk1 k8
      rw [nv_set] at k9
      have x9 : Ext w6 w9 := x8.fresh s9.upd (by rintro j rfl; exact Nat.le_refl _)
      refine ⟨fun k w' => ∃ d : List Nat, 0 ≤ k ∧ k ≤ i ∧ Ext w6 w' ∧ Blk w' w6.heap.size 3 (nv d) ∧ Next (T.map (·.1)) c d i ∧ cl d i = i ∧ ∀ k', k' < k.toNat → ¬ Step (T.map (·.1)) c i k', fun k _ => (i - k).toNat,
        ⟨_, by omega, by omega, x9, k9, ⟨by simpa using hd.len, fun j hj => ?_⟩, ?_, fun k' hk' => by simp at hk'⟩, ?_⟩
      · rw [cl_set (by omega), if_neg (by omega)]
        exact hd.step j hj
      · rw [cl_set (by omega), if_pos rfl]
      rintro _ k w10 ⟨d, l0, l1, x10, k10, hd, hself, hno⟩
      have hdl : d.length = T.length := by rw [hd.len, hL]
      have t10 := t6.ext x10
      have b10 := b6.ext x10
      refine ⟨fun hk => ?_, fun hk => ?_⟩
      · obtain ⟨k, rfl⟩ : ∃ k' : Nat, k = k' := ⟨k.toNat, by omega⟩
        rw [Int.toNat_natCast] at hno
        obtain ⟨tk, htk, _, hmk⟩ := getM (T := T) (i := k) (by omega)
        intro w11 q11
        have x11 : Ext w6 w11 := x10.trans q11.ext
        have t11 := t6.ext x11
        have k11 := k10.ext q11.ext
        have r1 := cb1 (b6.ext x11)
        obtain ⟨r2, r3⟩ := cs1 t11.hd
        obtain ⟨p, hp, _⟩ := t11.like.rd.natAt (i := k) (by omega)
        have r4 : ∀ w', Ext w11 w' → w'.cell? (p.add (k : Int).toNat) = some (.int .i64 (cl c k : Nat)) := fun w' u => by
          obtain ⟨p', hp', h⟩ := (t11.ext u).like.rd.natAt (i := k) (by omega)
          rw [hp] at hp'; injection hp' with hp'; subst hp'; exact h
        have r5 : ∀ w', Ext w11 w' → w'.cell? (p.add (i : Int).toNat) = some (.int .i64 (cl c i : Nat)) := fun w' u => by
          obtain ⟨p', hp', h⟩ := (t11.ext u).like.rd.natAt (i := i) (by omega)
          rw [hp] at hp'; injection hp' with hp'; subst hp'; exact h
        have hsn := t11.likeLen
        have next : ¬ Step (T.map (·.1)) c i k → ∀ k', k' < ((k : Int) + 1).toNat → ¬ Step (T.map (·.1)) c i k' := fun h k' hk' => by
          by_cases e : k' = k
          · subst e; exact h
          · exact hno k' (by omega)
        refine ⟨fun _ => False, _, r1, _, rfl, sl, r3, by omega, by omega, p, hp, _, r4, _, r1, _, rfl, sl, r3, by omega, by omega, p, hp, _, r5, fun heq => ?_, fun hne => ⟨⟨d, ?_, ?_, x11, k11, hd, hself, ?_⟩, ?_⟩⟩
        · have hcc : cl c i = cl c k := by omega
          have hkl := cl6.kind i k _ _ hmi hmk hcc
          refine ⟨_, r1, ⟨(goes_spec t11 hcl (by omega) ok hti htk hkl.2).mono ?_⟩⟩
          rintro e w12 ⟨r, rfl, hr, q12⟩
          have x12 := x11.trans q12.ext
          have k12 := k11.ext q12.ext
          have hstep : r = true ↔ Step (T.map (·.1)) c i k := by
            rw [hr]
            exact ⟨fun h => ⟨_, _, hmi, hmk, hcc, h⟩, fun ⟨x, y, hx, hy, _, h⟩ => by rw [hmi] at hx; rw [hmk] at hy; injection hx with hx; injection hy with hy; subst hx; subst hy; exact h⟩
          refine ⟨_, rfl, fun hb => ?_, fun hb => ⟨⟨d, ?_, ?_, x12, k12, hd, hself, ?_⟩, ?_⟩⟩
          · have hs := hstep.1 hb
            have hck : w12.cell? ⟨w6.heap.size, (k : Int).toNat, none⟩ = some (.int .i64 (cl d k : Nat)) := by
              rw [k12.cell, Int.toNat_natCast, nv, List.getElem?_map, cl_get (by omega)]; rfl
            refine ⟨by omega, by omega, _, hck, by omega, by omega, k12.canSet _ (by simp; omega), ?_⟩
            intro w13 s13
            rw [Int.toNat_natCast] at s13
            have k13 := s13.blk1 k12
            rw [nv_set] at k13
            have x13 : Ext w6 w13 := x12.fresh s13.upd (by rintro j rfl; exact Nat.le_refl _)
            obtain ⟨c1, c2, c3⟩ := hd.step k (by omega)
            refine ⟨⟨d.set i (cl d k), ?_, ?_, x13, k13, ⟨by simpa using hd.len, fun j hj => ?_⟩⟩, ?_⟩
            · (first | (rw [wrap_i64 (by omega) (by omega)]; omega) | (dsimp only; rw [wrap_i64 (by omega) (by omega)]; omega) | (dsimp only; omega))
            · (first | (rw [wrap_i64 (by omega) (by omega)]; omega) | (dsimp only; rw [wrap_i64 (by omega) (by omega)]; omega) | (dsimp only; omega))
            · rw [wrap_i64 (by omega) (by omega)] at hj
              by_cases e : j = i
              · subst e
                rw [cl_set (by omega), if_pos rfl]
                refine ⟨by omega, hs.trans cl6 c2, fun m hm => hno m (by omega)⟩
              · rw [cl_set (by omega), if_neg (fun h => e h.symm)]
                exact hd.step j (by omega)
            · (first | (rw [wrap_i64 (by omega) (by omega)]; omega) | (dsimp only; rw [wrap_i64 (by omega) (by omega)]; omega) | (dsimp only; omega))
          · (first | (rw [wrap_i64 (by omega) (by omega)]; omega) | (dsimp only; rw [wrap_i64 (by omega) (by omega)]; omega) | (dsimp only; omega))
          · (first | (rw [wrap_i64 (by omega) (by omega)]; omega) | (dsimp only; rw [wrap_i64 (by omega) (by omega)]; omega) | (dsimp only; omega))
          · rw [wrap_i64 (by omega) (by omega)]
            exact next fun h => by rw [hstep.2 h] at hb; cases hb
          · (first | (rw [wrap_i64 (by omega) (by omega)]; omega) | (dsimp only; rw [wrap_i64 (by omega) (by omega)]; omega) | (dsimp only; omega))
        · (first | (rw [wrap_i64 (by omega) (by omega)]; omega) | (dsimp only; rw [wrap_i64 (by omega) (by omega)]; omega) | (dsimp only; omega))
        · (first | (rw [wrap_i64 (by omega) (by omega)]; omega) | (dsimp only; rw [wrap_i64 (by omega) (by omega)]; omega) | (dsimp only; omega))
        · rw [wrap_i64 (by omega) (by omega)]
          exact next fun ⟨_, _, _, _, h, _⟩ => hne (by omega)
        · (first | (rw [wrap_i64 (by omega) (by omega)]; omega) | (dsimp only; rw [wrap_i64 (by omega) (by omega)]; omega) | (dsimp only; omega))
      · refine ⟨⟨d, ?_, ?_, x10, k10, ⟨hd.len, fun j hj => ?_⟩⟩, ?_⟩
        · (first | (rw [wrap_i64 (by omega) (by omega)]; omega) | (dsimp only; rw [wrap_i64 (by omega) (by omega)]; omega) | (dsimp only; omega))
        · (first | (rw [wrap_i64 (by omega) (by omega)]; omega) | (dsimp only; rw [wrap_i64 (by omega) (by omega)]; omega) | (dsimp only; omega))
        · rw [wrap_i64 (by omega) (by omega)] at hj
          by_cases e : j = i
          · subst e
            rw [hself]
            exact ⟨Nat.le_refl _, Step.refl (by omega), fun m hm => hno m (by omega)⟩
          · exact hd.step j (by omega)
        · (first | (rw [wrap_i64 (by omega) (by omega)]; omega) | (dsimp only; rw [wrap_i64 (by omega) (by omega)]; omega) | (dsimp only; omega))
    · simp only [b8.cell, hd8.cell, List.getElem?_cons_zero, List.getElem?_cons_succ, ex_sl, Value.int.injEq, Value.bool.injEq, Value.pointer.injEq, Value.string.injEq, eq_self, false_or, or_false, true_and, and_true, decide_eq_true_eq, decide_eq_false_iff_not, gd_st, gd_sf, exists_eq_left', exists_eq_left, Option.some.injEq, Sl.eta, Nat.reduceLeDiff, Int.reduceLE, Int.reduceLT, Int.reduceEq, Int.reduceNe, Nat.reduceMul, Nat.reduceAdd, Nat.reduceSub, Int.toNat_natCast, beq_iff_eq, bne_iff_ne, beq_eq_false_iff_ne, bne_eq_false_iff_eq, pick_and, pick_or, Bool.and_eq_true, Bool.or_eq_true, Bool.and_eq_false_iff, Bool.or_eq_false_iff, ne_eq, not_false_eq_true, Bool.not_eq_true', Bool.not_eq_false', reduceCtorEq, Nat.le_refl, Nat.zero_mul, Nat.mul_one, Nat.zero_add, Int.reduceToNat, ones, one, add_mk, Decidable.not_not, cond_true, cond_false, true_implies, false_implies, implies_true, Bool.not_true, Bool.not_false]
      have hnT : n = T.length := by omega
      subst hnT
      rw [Int.toNat_natCast, ← hL] at hd
      have ro8 : Rd w8 1 ⟨some ⟨w6.heap.size, 0, none⟩, sa.n, sa.n⟩ (iv (d.map fun (n : Nat) => (n : Int))) := by
        have := k8.rd (z := 1) (o := 0) (n := sa.n) (c := sa.n) (by simp; omega)
        rw [← nv_iv]
        rw [List.drop_zero, List.take_of_length_le (by simp; omega)] at this
        exact this
      refine ⟨(equal_spec (b := sl) ro8 (by rw [← nv_iv]; exact t8.like.rd) (by simp; omega)).mono ?_⟩
      rintro e w9 ⟨rfl, q9⟩
      have t9 := t8.ext q9.ext
      have b9 := b8.ext q9.ext
      have hd9 := t9.hd
      have x9 := x8.trans q9.ext
      have k9 := k8.ext q9.ext
      refine ⟨_, rfl, fun hb => ?_, fun hb => ?_⟩
      · have he := nn_inj (of_decide_eq_true hb)
        subst he
        exact ⟨u6.ext x9, sl, d, t9, cl6, hd⟩
      · have hne : d ≠ c := fun h => by have := of_decide_eq_false hb; exact this (by rw [h])
        simp only [b9.cell, List.getElem?_cons_zero, List.getElem?_cons_succ, ex_sl, Value.int.injEq, Value.bool.injEq, Value.pointer.injEq, Value.string.injEq, eq_self, false_or, or_false, true_and, and_true, decide_eq_true_eq, decide_eq_false_iff_not, gd_st, gd_sf, exists_eq_left', exists_eq_left, Option.some.injEq, Sl.eta, Nat.reduceLeDiff, Int.reduceLE, Int.reduceLT, Int.reduceEq, Int.reduceNe, Nat.reduceMul, Nat.reduceAdd, Nat.reduceSub, Int.toNat_natCast, beq_iff_eq, bne_iff_ne, beq_eq_false_iff_ne, bne_eq_false_iff_eq, pick_and, pick_or, Bool.and_eq_true, Bool.or_eq_true, Bool.and_eq_false_iff, Bool.or_eq_false_iff, ne_eq, not_false_eq_true, Bool.not_eq_true', Bool.not_eq_false', reduceCtorEq, Nat.le_refl, Nat.zero_mul, Nat.mul_one, Nat.zero_add, Int.reduceToNat, ones, one, add_mk, Decidable.not_not, cond_true, cond_false, true_implies, false_implies, implies_true, Bool.not_true, Bool.not_false]
        refine ⟨hd9.canSet 1 (by simp), ?_⟩
        intro w10 s10
        have u10 := s10.upd
        have hd10 := s10.blk1 hd9
        simp only [List.set] at hd10
        have hgw6 : g < w6.heap.size := t6.hd.lt
        have k10 := k9.upd u10 (by dsimp only; omega)
        have ho9 : TyOwn w10 B sa T := t9.ty.updG hd9 u10
        have u69 : Upd (· = g) w6 w10 := x9.upd u10
        have cl10 := hd.cls cl6 ok
        have hdl' : d.length = T.length := by rw [cl10.len, hL]
        have own10 : Own w10 B 3 1 ⟨some ⟨w6.heap.size, 0, none⟩, sa.n, sa.n⟩ (nv d) := by
          have := Own.of_blk (s := ⟨some ⟨w6.heap.size, 0, none⟩, sa.n, sa.n⟩) (z := 1) (B := B) k10 (by have := u6.size; omega) rfl (Nat.le_refl _) (by unfold maxLen; simp; omega) (by simp; omega)
          rw [List.take_of_length_le (by simp; omega)] at this
          exact this
        have t10 : Tbl w10 B g T sa ⟨some ⟨w6.heap.size, 0, none⟩, sa.n, sa.n⟩ d := ⟨hd10, hB, ho9, own10⟩
        refine ⟨⟨d, _, u6.same u69, b9.upd u10 (by have := b2.lt; dsimp only; omega), t10, cl10⟩, ?_⟩
        rw [hmu, show room (likeOf w10 g T.length) T.length = room d T.length by rw [← hdl', likeOf_eq t10 (by omega)]]
        refine room_lt _ (fun i hi => ⟨hd.ge cl6 (by omega), (hd.step i (by omega)).1⟩) ?_
        refine Classical.byContradiction fun hno => hne (cl_ext (by omega) fun i hi => ?_).symm
        exact Classical.byContradiction fun hn => hno ⟨i, by omega, fun h => hn h⟩
end Go.Proofs.YtfppdkkbekkhbaaDoor.V.T
