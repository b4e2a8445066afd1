/-
  Rows and things that a law made, in blocks of a kind; cells renamed.
-/
import Derived.Test.YtepmokkhcombmaaDoorSvq
namespace Go.Proofs.YtepmokkhcombmaaDoor.V
open Go Go.RowKit
set_option linter.unusedVariables false
set_option linter.unusedSimpArgs false
set_option linter.unusedSectionVars false
set_option maxRecDepth 100000

theorem thV_append (a b : List QT) : thV (a ++ b) = thV a ++ thV b := by simp [thV]
theorem thV_ones (c : List QT) : ∀ v ∈ thV c, one v := by
  intro v hv
  unfold thV at hv
  obtain ⟨x, _, hx⟩ := List.mem_flatMap.1 hv
  simp at hx
  rcases hx with rfl | rfl | rfl <;> trivial
def RwG (er ec : Nat) (w : World) (B : Nat) (s : Sl) (R : List Rp) : Prop := ∃ q : List QR, Own w B er 4 s (rwV q) ∧ q.length = R.length ∧ (∀ (k : Nat) (a : QR) (t : Rp), q[k]? = some a → R[k]? = some t → a.1 = t.fn ∧ a.2.1 = t.pl) ∧
  ∀ (k : Nat) (a : QR) (t : Rp), q[k]? = some a → R[k]? = some t → Own w B ec 3 a.2.2.1 (clV t.loc) ∧ Own w B ec 3 a.2.2.2 (clV t.stk)
def ThG (et ec : Nat) (w : World) (B : Nat) (s : Sl) (L : List Th) : Prop := ∃ q : List QT, Own w B et 3 s (thV q) ∧ q.length = L.length ∧ (∀ (k : Nat) (a : QT) (t : Th), q[k]? = some a → L[k]? = some t → a.1 = t.id ∧ a.2.1 = t.lab) ∧
  ∀ (k : Nat) (a : QT) (t : Th), q[k]? = some a → L[k]? = some t → Own w B ec 3 a.2.2 (clV t.cells)
section
variable {er et ec : Nat} {w w' w1 w2 : World} {B : Nat} {K : World → Prop} {s : Sl} {R : List Rp} {L : List Th} {S : Nat → Prop}
theorem RwG.nil (w : World) (B : Nat) : RwG er ec w B ⟨none, 0, 0⟩ [] := ⟨[], Own.nil _ _ _ _, rfl, fun k a t h => (by simp at h), fun k a t h => (by simp at h)⟩
theorem ThG.nil (w : World) (B : Nat) : ThG et ec w B ⟨none, 0, 0⟩ [] := ⟨[], Own.nil _ _ _ _, rfl, fun k a t h => (by simp at h), fun k a t h => (by simp at h)⟩
theorem RwG.ext (h : RwG er ec w B s R) (u : Ext w w') : RwG er ec w' B s R := by
  obtain ⟨q, h1, h2, h3, h4⟩ := h
  exact ⟨q, h1.ext u, h2, h3, fun k a t ha ht => ⟨(h4 k a t ha ht).1.ext u, (h4 k a t ha ht).2.ext u⟩⟩
theorem ThG.ext (h : ThG et ec w B s L) (u : Ext w w') : ThG et ec w' B s L := by
  obtain ⟨q, h1, h2, h3, h4⟩ := h
  exact ⟨q, h1.ext u, h2, h3, fun k a t ha ht => (h4 k a t ha ht).ext u⟩
theorem RwG.rwk (h : RwG er ec w B s R) : RwK (Ext w) s R := by
  obtain ⟨q, h1, h2, h3, h4⟩ := h
  exact ⟨q, h2, h3, fun w' u => ⟨(h1.ext u).rd, fun k a t ha ht => ⟨((h4 k a t ha ht).1.ext u).rd, ((h4 k a t ha ht).2.ext u).rd⟩⟩⟩
theorem ThG.thk (h : ThG et ec w B s L) : ThK (Ext w) s L := by
  obtain ⟨q, h1, h2, h3, h4⟩ := h
  exact ⟨q, h2, h3, fun w' u => ⟨(h1.ext u).rd, fun k a t ha ht => ((h4 k a t ha ht).ext u).rd⟩⟩
theorem RwG.n (h : RwG er ec w B s R) : s.n = R.length := h.rwk.n (Ext.refl w)
theorem ThG.n (h : ThG et ec w B s L) : s.n = L.length := h.thk.n (Ext.refl w)
/-- one row more -/
theorem RwG.push {t ty by_ : Nat} {zs : List Value} (ht : lk tab.und t = some (TD.slice er)) (hs : lk tab.siz er = some (4, by_, zs)) (hne : er ≠ ec) {g : Nat} {x s1 s2 : Sl} {r : Rp} (h : RwG er ec w B s R) (hx : Rd w 4 x (rwV [(r.fn, r.pl, s1, s2)])) (hx1 : x.n = 1)
    (o1 : Own w B ec 3 s1 (clV r.loc)) (o2 : Own w B ec 3 s2 (clV r.stk)) (hb : (R.length + 1) * by_ ≤ 140737488355328) (hm : R.length + 1 ≤ 9223372036854775807) (hB : B ≤ w.heap.size) :
    ∃ (s' : Sl) (w' : World), Runs Tryd.prog (Builtin.append_ #[t, t] ty #[.slice s.a s.n s.c, .slice x.a x.n x.c]) w (.slice s'.a s'.n s'.c) w' ∧ RwG er ec w' B s' (R ++ [r]) ∧ Upd (fun k => B ≤ k) w w' ∧ (∀ {z : Nat} {q : Sl} {l : List Value} {e B' : Nat}, er ≠ e → Own w B' e z q l → Own w' B' e z q l) := by
  have hn := h.n
  obtain ⟨q0, hq, hl, hf, hc⟩ := h
  obtain ⟨s', w', hr, _, o, u, _⟩ := hq.append (t := t) (ty := ty) tab_ok ht hs (by decide) hx (rwV_ones _) (by rw [hn, hx1]; exact hb) (by rw [hn, hx1]; exact hm) hB
  have keep : ∀ {z : Nat} {q : Sl} {l : List Value} {e B' : Nat}, er ≠ e → Own w B' e z q l → Own w' B' e z q l := fun hn ho => ho.upd u (by rintro p hp ⟨p', hp', e⟩; exact own_ne hq ho hn p' p hp' hp e.symm)
  refine ⟨s', w', hr, ⟨q0 ++ [(r.fn, r.pl, s1, s2)], by rw [rwV_append]; exact o, by rw [List.length_append, List.length_append, hl]; rfl, fun k a t' ha ht => ?_, fun k a t' ha ht => ?_⟩, u.mono (fun k _ hr => by rintro ⟨p, hp, rfl⟩; exact hr (hq.base p hp).1), fun hn ho => keep hn ho⟩
  · rcases snoc_cases ha with ⟨ha, hk⟩ | ⟨hk, rfl⟩
    · rw [List.getElem?_append_left (by omega)] at ht
      exact hf k a t' ha ht
    · rw [List.getElem?_append_right (by omega), ← hl, hk, Nat.sub_self] at ht
      simp at ht; subst ht
      exact ⟨rfl, rfl⟩
  · rcases snoc_cases ha with ⟨ha, hk⟩ | ⟨hk, rfl⟩
    · rw [List.getElem?_append_left (by omega)] at ht
      exact ⟨keep hne (hc k a t' ha ht).1, keep hne (hc k a t' ha ht).2⟩
    · rw [List.getElem?_append_right (by omega), ← hl, hk, Nat.sub_self] at ht
      simp at ht; subst ht
      exact ⟨keep hne o1, keep hne o2⟩
theorem ThG.push {t ty by_ : Nat} {zs : List Value} (ht : lk tab.und t = some (TD.slice et)) (hs : lk tab.siz et = some (3, by_, zs)) (hne : et ≠ ec) {g : Nat} {x s1 : Sl} {r : Th} (h : ThG et ec w B s L) (hx : Rd w 3 x (thV [(r.id, r.lab, s1)])) (hx1 : x.n = 1)
    (o1 : Own w B ec 3 s1 (clV r.cells)) (hb : (L.length + 1) * by_ ≤ 140737488355328) (hm : L.length + 1 ≤ 9223372036854775807) (hB : B ≤ w.heap.size) :
    ∃ (s' : Sl) (w' : World), Runs Tryd.prog (Builtin.append_ #[t, t] ty #[.slice s.a s.n s.c, .slice x.a x.n x.c]) w (.slice s'.a s'.n s'.c) w' ∧ ThG et ec w' B s' (L ++ [r]) ∧ Upd (fun k => B ≤ k) w w' ∧ (∀ {z : Nat} {q : Sl} {l : List Value} {e B' : Nat}, et ≠ e → Own w B' e z q l → Own w' B' e z q l) := by
  have hn := h.n
  obtain ⟨q0, hq, hl, hf, hc⟩ := h
  obtain ⟨s', w', hr, _, o, u, _⟩ := hq.append (t := t) (ty := ty) tab_ok ht hs (by decide) hx (thV_ones _) (by rw [hn, hx1]; exact hb) (by rw [hn, hx1]; exact hm) hB
  have keep : ∀ {z : Nat} {q : Sl} {l : List Value} {e B' : Nat}, et ≠ e → Own w B' e z q l → Own w' B' e z q l := fun hn ho => ho.upd u (by rintro p hp ⟨p', hp', e⟩; exact own_ne hq ho hn p' p hp' hp e.symm)
  refine ⟨s', w', hr, ⟨q0 ++ [(r.id, r.lab, s1)], by rw [thV_append]; exact o, by rw [List.length_append, List.length_append, hl]; rfl, fun k a t' ha ht => ?_, fun k a t' ha ht => ?_⟩, u.mono (fun k _ hr => by rintro ⟨p, hp, rfl⟩; exact hr (hq.base p hp).1), fun hn ho => keep hn ho⟩
  · rcases snoc_cases ha with ⟨ha, hk⟩ | ⟨hk, rfl⟩
    · rw [List.getElem?_append_left (by omega)] at ht
      exact hf k a t' ha ht
    · rw [List.getElem?_append_right (by omega), ← hl, hk, Nat.sub_self] at ht
      simp at ht; subst ht
      exact ⟨rfl, rfl⟩
  · rcases snoc_cases ha with ⟨ha, hk⟩ | ⟨hk, rfl⟩
    · rw [List.getElem?_append_left (by omega)] at ht
      exact keep hne (hc k a t' ha ht)
    · rw [List.getElem?_append_right (by omega), ← hl, hk, Nat.sub_self] at ht
      simp at ht; subst ht
      exact keep hne o1
theorem RwG.keep (h : RwG er ec w B s R) (k : ∀ {z : Nat} {q : Sl} {l : List Value} {e B' : Nat}, et ≠ e → Own w B' e z q l → Own w' B' e z q l) (h1 : et ≠ er) (h2 : et ≠ ec) : RwG er ec w' B s R := by
  obtain ⟨q0, hq, hl, hf, hc⟩ := h
  exact ⟨q0, k h1 hq, hl, hf, fun i a t ha ht => ⟨k h2 (hc i a t ha ht).1, k h2 (hc i a t ha ht).2⟩⟩
end
abbrev byT (b : Nat) (x : Nat) : Nat := (x * b) % M64
section
variable {w : World} {s : Sl} {l : List Cl} {b : Nat}
theorem renamed_spec (h : Rd w 3 s (clV l)) (hm : l.length ≤ 1000000000000) :
    Calls Tryd.prog 12 #[.slice s.a s.n s.c, .int .u64 (b : Nat)] w fun e w' => ∃ sl : Sl, e = .returned (.slice sl.a sl.n sl.c) ∧ Own w' w.heap.size 42 3 sl (clV (l.map (renC (byT b)))) ∧ Ext w w' := by
  refine vc_12 _ _ _ _ ?_
  have hn := h.lencl
  simp only [eq_self, false_or, or_false, true_and, and_true, decide_eq_true_eq, decide_eq_false_iff_not, gd_st, gd_sf, exists_eq_left', exists_eq_left, Option.some.injEq, Sl.eta, Nat.reduceLeDiff, Int.reduceLE, Int.reduceLT, Int.reduceEq, Int.reduceNe, Nat.reduceMul, Nat.reduceAdd, Nat.reduceSub, Int.toNat_natCast, beq_iff_eq, bne_iff_ne, beq_eq_false_iff_ne, bne_eq_false_iff_eq, pick_and, pick_or, Bool.and_eq_true, Bool.or_eq_true, Bool.and_eq_false_iff, Bool.or_eq_false_iff, ne_eq, not_false_eq_true, Bool.not_eq_true', Bool.not_eq_false', reduceCtorEq, Nat.le_refl, Nat.zero_mul, Nat.mul_one, Nat.zero_add, Int.reduceToNat, ones, one, add_mk, Decidable.not_not, cond_true, cond_false, true_implies, false_implies, implies_true, Bool.not_true, Bool.not_false]
  refine ⟨fun sl n w' => ∃ k : Nat, n = (k : Nat) ∧ k ≤ l.length ∧ Own w' w.heap.size 42 3 sl (clV ((l.take k).map (renC (byT b)))) ∧ Ext w w', fun _ n _ => (l.length - n).toNat, ⟨0, rfl, Nat.zero_le _, Own.nil _ _ _ _, Ext.refl _⟩, ?_⟩
  rintro _ sl n w1 ⟨k, rfl, hk, o1, x1⟩
  have ek : IntKind.i64.wrap ((k : Int) + 1) = ((k + 1 : Nat) : Int) := by rw [wrap_i64 (by omega) (by omega)]; omega
  rw [ek]
  refine ⟨fun hlt => ?_, fun hge => ?_⟩
  rotate_left
  · have : k = l.length := by omega
    subst this
    rw [List.take_length] at o1
    exact ⟨sl, rfl, o1, x1⟩
  obtain ⟨c, hc⟩ : ∃ c, l[k]? = some c := ⟨_, List.getElem?_eq_getElem (by omega)⟩
  obtain ⟨p, hp, c0, c1, c2⟩ := (h.ext x1).cl hc
  simp only [Int.toNat_natCast]
  refine ⟨by omega, by omega, p, hp, _, _, _, rfl, ⟨c0, c1, c2⟩, fun w2 n2 => ⟨rfl, (Blk.new n2).canSetN 0 3 (by simp), fun w3 s3 => ?_⟩⟩
  have k3 : Blk w3 w1.heap.size 42 [.bool c.ref, .int .u64 (c.id : Nat), .string (mkB c.text)] := s3.blk (Blk.new n2)
  refine ⟨_, k3.cell 1, k3.canSetN 1 1 (by simp), fun w4 s4 => ?_⟩
  have e4 : IntKind.u64.wrap (((c.id : Nat) : Int) * ((b : Nat) : Int)) = ((byT b c.id : Nat) : Int) := by rw [← Int.natCast_mul, wrap_u64mod]
  rw [e4] at s4
  have k4 : Blk w4 w1.heap.size 42 [.bool c.ref, .int .u64 (byT b c.id : Nat), .string (mkB c.text)] := s4.blk k3
  refine ⟨_, _, _, rfl, ⟨k4.cell 0, k4.cell 1, k4.cell 2⟩, rfl, fun w5 n5 => ?_⟩
  have x14 : Ext w1 w4 := (n2.ext.fresh s3.upd (by rintro i rfl; exact Nat.le_refl _)).fresh s4.upd (by rintro i rfl; exact Nat.le_refl _)
  have x15 := x14.trans n5.ext
  have z1 := x1.size
  have z4 := x14.size
  have z5 := n5.size
  have hsn := o1.rd.lencl
  rw [List.length_map, List.length_take] at hsn
  have rd : Rd w5 3 ⟨some ⟨w4.heap.size, 0, none⟩, 1, 1⟩ (clV [renC (byT b) c]) := (Blk.new n5).rd (z := 3) (o := 0) (n := 1) (c := 1) (by simp)
  obtain ⟨s', w6, hr6, hn6, o6, u6, _⟩ := (o1.ext x15).append (t := 34) (ty := 34) tab_ok (by rfl) (by rfl) (by decide) rd (clV_ones _) (by dsimp only; omega) (by dsimp only; omega) (by omega)
  rw [← clV_append, show [renC (byT b) c] = [c].map (renC (byT b)) from rfl, ← List.map_append, ← take_snoc hc] at o6
  exact ⟨s', w6, hr6, ⟨k + 1, rfl, by omega, o6, (x1.trans x15).fresh u6 (by rintro j ⟨q, hq, rfl⟩; exact (o1.base q hq).1)⟩, by omega⟩
end
end Go.Proofs.YtepmokkhcombmaaDoor.V
