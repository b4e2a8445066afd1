/-
  The document's table: read of bytes.
-/
import Derived.Test.YtihnjjmbcbfheaaDoorRo5
namespace Go.Proofs.YtihnjjmbcbfheaaDoor.V
open Go Go.RowKit
set_option linter.unusedVariables false
set_option linter.unusedSimpArgs false
set_option linter.unusedSectionVars false
set_option maxRecDepth 100000

def plV (l : List Pl) : List Value := l.flatMap fun p => [.int .i64 ((p.at_ : Nat) : Int), .int .u64 ((p.loc : Nat) : Int), .int .u64 ((p.stk : Nat) : Int)]
def slV (q : List Sl) : List Value := q.map fun s => .slice s.a s.n s.c
theorem plV_append (a b : List Pl) : plV (a ++ b) = plV a ++ plV b := by simp [plV]
theorem plV_len : ∀ c : List Pl, (plV c).length = c.length * 3
  | [] => rfl
  | x :: c => by
    have := plV_len c
    show (plV c).length + 3 = _
    rw [List.length_cons]; omega
theorem plV_ones (c : List Pl) : ∀ v ∈ plV c, one v := by
  intro v hv
  unfold plV at hv
  obtain ⟨x, _, hx⟩ := List.mem_flatMap.1 hv
  simp at hx
  rcases hx with rfl | rfl | rfl <;> trivial
theorem slV_ones (c : List Sl) : ∀ v ∈ slV c, one v := by
  intro v hv
  obtain ⟨x, _, rfl⟩ := List.mem_map.1 hv
  trivial
theorem plV_get : ∀ {c : List Pl} {i : Nat} {x : Pl}, c[i]? = some x → (plV c)[i * 3]? = some (.int .i64 ((x.at_ : Nat) : Int)) ∧ (plV c)[i * 3 + 1]? = some (.int .u64 ((x.loc : Nat) : Int)) ∧ (plV c)[i * 3 + 2]? = some (.int .u64 ((x.stk : Nat) : Int))
  | [], i, x, h => by simp at h
  | y :: c, 0, x, h => by
    simp at h; subst h
    exact ⟨rfl, rfl, rfl⟩
  | y :: c, i + 1, x, h => by
    have ih := plV_get (c := c) (i := i) (x := x) (by simpa using h)
    have e : ∀ j, (plV (y :: c))[j + 3]? = (plV c)[j]? := fun j => rfl
    refine ⟨?_, ?_, ?_⟩
    · rw [show (i + 1) * 3 = i * 3 + 3 by omega, e]; exact ih.1
    · rw [show (i + 1) * 3 + 1 = (i * 3 + 1) + 3 by omega, e]; exact ih.2.1
    · rw [show (i + 1) * 3 + 2 = (i * 3 + 2) + 3 by omega, e]; exact ih.2.2
theorem Rd.pl {w : World} {s : Sl} {l : List Pl} (h : Rd w 3 s (plV l)) {i : Nat} {x : Pl} (hx : l[i]? = some x) : ∃ p, s.a = some p ∧ w.cell? ((p.add (i * 3)).add 0) = some (.int .i64 ((x.at_ : Nat) : Int)) ∧ w.cell? (((p.add (i * 3)).add 1).add 0) = some (.int .u64 ((x.loc : Nat) : Int)) ∧ w.cell? (((p.add (i * 3)).add 1).add 1) = some (.int .u64 ((x.stk : Nat) : Int)) := by
  obtain ⟨g0, g1, g2⟩ := plV_get hx
  have hl := h.1
  rw [plV_len] at hl
  have := (List.getElem?_eq_some_iff.1 hx).1
  obtain ⟨p, hp, hc⟩ := h.2 (by omega)
  refine ⟨p, hp, ?_, ?_, ?_⟩
  · rw [add_add]; exact hc _ _ g0
  · rw [add_add, add_add]; exact hc _ _ g1
  · rw [add_add, add_add]; exact hc _ _ g2
theorem Rd.pln {w : World} {s : Sl} {l : List Pl} (h : Rd w 3 s (plV l)) : s.n = l.length := by
  have := h.1
  rw [plV_len] at this; omega
section
variable {w w' : World} {B g : Nat} {bs : List Nat} {s : RS} {sl : Sl}
set_option maxHeartbeats 1000000 in
theorem rrow_spec (h : RRd w B g bs s sl) :
    Calls Tryd.prog 21 #[.pointer (some ⟨g, 0, none⟩)] w fun e w' => ∃ s' : Sl, e = .returned (.slice s'.a s'.n s'.c) ∧ Own w' w.heap.size 89 3 s' (plV (rdT bs s).1) ∧ RRd w' B g bs (rdT bs s).2 sl ∧ Upd (· = g) w w' := by
  refine vc_21 _ _ _ ?_
  simp only [eq_self, false_or, or_false, true_and, and_true, decide_eq_true_eq, decide_eq_false_iff_not, gd_st, gd_sf, exists_eq_left', exists_eq_left, Option.some.injEq, Sl.eta, Nat.reduceLeDiff, Int.reduceLE, Int.reduceLT, Int.reduceEq, Int.reduceNe, Nat.reduceMul, Nat.reduceAdd, Nat.reduceSub, Int.toNat_natCast, beq_iff_eq, bne_iff_ne, beq_eq_false_iff_ne, bne_eq_false_iff_eq, pick_and, pick_or, Bool.and_eq_true, Bool.or_eq_true, Bool.and_eq_false_iff, Bool.or_eq_false_iff, ne_eq, not_false_eq_true, Bool.not_eq_true', Bool.not_eq_false', reduceCtorEq, Nat.le_refl, Nat.zero_mul, Nat.mul_one, Nat.zero_add, Int.reduceToNat, ones, one, add_mk, Decidable.not_not, cond_true, cond_false, true_implies, false_implies, implies_true, Bool.not_true, Bool.not_false]
  refine ⟨(ruint_spec 300 5 h).mono ?_⟩
  rintro e w1 ⟨rfl, h1, u1⟩
  have hg := h.blk.lt
  have hN : (s.uint bs 300 5).1 ≤ 300 := uint_le (by decide)
  have eN : IntKind.i64.wrap (((s.uint bs 300 5).1 : Nat) : Int) = ((s.uint bs 300 5).1 : Nat) := wrap_i64 (by omega) (by omega)
  refine ⟨_, rfl, ?_⟩
  simp only [eN]
  refine ⟨fun so ah n w' => ∃ (x i : Nat) (s' : RS) (l : List Pl), ah = (x : Int) - 1 ∧ n = (i : Nat) ∧ i ≤ (s.uint bs 300 5).1 ∧ l.length = i ∧ (s'.er = 0 → x ≤ 300) ∧ RRd w' B g bs s' sl ∧ Own w' w.heap.size 89 3 so (plV l) ∧
      rdT bs s = (l ++ (rowT bs ((s.uint bs 300 5).1 - i) s' x).1, (rowT bs ((s.uint bs 300 5).1 - i) s' x).2) ∧ Upd (· = g) w w', fun _ _ n _ => ((s.uint bs 300 5).1 - n).toNat, ⟨0, 0, _, [], rfl, rfl, Nat.zero_le _, rfl, fun _ => by omega, h1, Own.nil _ _ _ _, rfl, u1⟩, ?_⟩
  rintro _ so ah n w2 ⟨x, i, s2, l, rfl, rfl, hi, hll, hx, h2, o2, e2, u2⟩
  have k2 := h2.blk
  refine ⟨fun hlt => ⟨_, k2.cell 3, fun h0 => ?_, fun hne => ?_⟩, fun hge => ?_⟩
  rotate_left
  · rw [rowT_bad hne] at e2
    rw [e2]
    dsimp only
    rw [List.append_nil]
    exact ⟨so, rfl, o2, h2, u2⟩
  · have : (s.uint bs 300 5).1 - i = 0 := by omega
    rw [this] at e2
    have e2 : rdT bs s = (l, s2) := by rw [e2]; simp [rowT]
    rw [e2]
    exact ⟨so, rfl, o2, h2, u2⟩
  have hx := hx h0
  obtain ⟨m, hm⟩ : ∃ m, (s.uint bs 300 5).1 - i = m + 1 := ⟨(s.uint bs 300 5).1 - (i + 1), by omega⟩
  rw [hm, rowT_step h0] at e2
  refine ⟨_, k2.cell 1, ⟨(ruint_spec 299 7 h2).mono ?_⟩⟩
  rintro e w3 ⟨rfl, h3, u3⟩
  have hA : (s2.uint bs 299 7).1 ≤ 299 := uint_le (by decide)
  have z2 := u2.size
  have o3 : Own w3 w.heap.size 89 3 so (plV l) := o2.upd u3 (o2.off_blk h2.blk (by decide))
  have ea : IntKind.i64.wrap (IntKind.i64.wrap ((x : Int) - 1 + 1) + IntKind.i64.wrap ((s2.uint bs 299 7).1 : Nat)) = ((plA bs s2 x : Nat) : Int) := by
    rw [wrap_i64 (n := ((s2.uint bs 299 7).1 : Int)) (by omega) (by omega), wrap_i64 (n := (x : Int) - 1 + 1) (by omega) (by omega), wrap_i64 (by omega) (by omega)]; unfold plA; omega
  refine ⟨_, rfl, ?_⟩
  simp only [ea]
  intro w4 n4
  refine ⟨rfl, (Blk.new n4).canSetN 0 3 (by simp), fun w5 s5 => ?_⟩
  have k5 : Blk w5 w3.heap.size 89 [.int .i64 ((plA bs s2 x : Nat) : Int), .int .u64 0, .int .u64 0] := s5.blk (Blk.new n4)
  have x35 : Ext w3 w5 := n4.ext.fresh s5.upd (by rintro j rfl; exact Nat.le_refl _)
  have h5 := h3.ext x35
  have o5 := o3.ext x35
  have u5 := (u2.same u3).ext x35
  have z3 := u3.size
  have z5 := x35.size
  have hkg : w3.heap.size ≠ g := by omega
  refine ⟨fun w' => RRd w' B g bs (plS bs s2 x) sl ∧ Blk w' w3.heap.size 89 [.int .i64 ((plA bs s2 x : Nat) : Int), .int .u64 0, .int .u64 0] ∧ Own w' w.heap.size 89 3 so (plV l) ∧ (∀ p, so.a = some p → p.block < w3.heap.size) ∧ Upd (· = g) w w', ⟨_, k5.cell 0, fun hge => ⟨(rfail_spec _ _ h5).mono ?_⟩, fun hlt => ⟨?_, k5, o5, fun p hp => (o3.base p hp).2, u5⟩⟩, ?_⟩
  · rintro e w6 ⟨rfl, h6, u6⟩
    have eS : plS bs s2 x = (s2.uint bs 299 7).2.fail s2.k 7 := by unfold plS; dsimp only; rw [if_pos (by unfold plA at hge; omega)]
    rw [eS]
    exact ⟨_, rfl, h6, k5.upd u6 hkg, o5.upd u6 (o5.off_blk h5.blk (by decide)), fun p hp => (o3.base p hp).2, u5.same u6⟩
  · have eS : plS bs s2 x = (s2.uint bs 299 7).2 := by unfold plS; dsimp only; rw [if_neg (by unfold plA at hlt; omega)]
    rw [eS]
    exact h5
  rintro _ w6 ⟨h6, k6, o6, hso, u6⟩
  refine ⟨(ruint_spec 4294967295 7 h6).mono ?_⟩
  rintro e w7 ⟨rfl, h7, u7⟩
  have eL : (plS bs s2 x).uint bs 4294967295 7 = plL bs s2 x := rfl
  rw [eL] at h7 ⊢
  have k7 := k6.upd u7 hkg
  have o7 := o6.upd u7 (o6.off_blk h6.blk (by decide))
  refine ⟨_, rfl, k7.canSetN 1 1 (by simp), fun w8 s8 => ?_⟩
  have k8 : Blk w8 w3.heap.size 89 [.int .i64 ((plA bs s2 x : Nat) : Int), .int .u64 ((plL bs s2 x).1 : Nat), .int .u64 0] := s8.blk k7
  have h8 : RRd w8 B g bs (plL bs s2 x).2 sl := h7.upd s8.upd (fun e => hkg e.symm) (h7.own.off_blk k7 (by decide))
  have o8 : Own w8 w.heap.size 89 3 so (plV l) := o7.upd s8.upd (fun p hp e => by have := hso p hp; have e : p.block = w3.heap.size := e; omega)
  refine ⟨(ruint_spec 16777215 7 h8).mono ?_⟩
  rintro e w9 ⟨rfl, h9, u9⟩
  have eK : (plL bs s2 x).2.uint bs 16777215 7 = plK bs s2 x := rfl
  rw [eK] at h9 ⊢
  have k9 := k8.upd u9 hkg
  have o9 := o8.upd u9 (o8.off_blk h8.blk (by decide))
  refine ⟨_, rfl, k9.canSetN 2 1 (by simp), fun w10 s10 => ?_⟩
  have k10 : Blk w10 w3.heap.size 89 [.int .i64 ((plA bs s2 x : Nat) : Int), .int .u64 ((plL bs s2 x).1 : Nat), .int .u64 ((plK bs s2 x).1 : Nat)] := s10.blk k9
  have h10 : RRd w10 B g bs (plK bs s2 x).2 sl := h9.upd s10.upd (fun e => hkg e.symm) (h9.own.off_blk k9 (by decide))
  have o10 : Own w10 w.heap.size 89 3 so (plV l) := o9.upd s10.upd (fun p hp e => by have := hso p hp; have e : p.block = w3.heap.size := e; omega)
  have fr : ∀ {a b : World}, Upd (fun k => k = w3.heap.size) a b → Upd (· = g) w a → Upd (· = g) w b := fun u v => v.fresh u fun i hi => .inl (by have hi : i = w3.heap.size := hi; omega)
  have u10 : Upd (· = g) w w10 := fr s10.upd ((fr s8.upd (u6.same u7)).same u9)
  refine ⟨_, k10.cell 0, _, _, _, rfl, ⟨k10.cell 0, k10.cell 1, k10.cell 2⟩, rfl, fun w11 n11 => ?_⟩
  have o11 := o10.ext n11.ext
  have z10 := u10.size
  have z11 := n11.size
  have hsn := o10.rd.pln
  have rd : Rd w11 3 ⟨some ⟨w10.heap.size, 0, none⟩, 1, 1⟩ (plV [⟨plA bs s2 x, (plL bs s2 x).1, (plK bs s2 x).1⟩]) := (Blk.new n11).rd (z := 3) (o := 0) (n := 1) (c := 1) (by simp)
  obtain ⟨s', w12, hr12, _, o12, u12, _⟩ := o11.append (t := 62) (ty := 62) tab_ok rfl rfl (by decide) rd (plV_ones _) (by dsimp only; omega) (by dsimp only; omega) (by omega)
  have h11 := h10.ext n11.ext
  have h12 : RRd w12 B g bs (plK bs s2 x).2 sl := h11.upd u12 (by rintro ⟨q, hq, e⟩; have := (o11.base q hq).1; omega) (fun p hp => by rintro ⟨q, hq, e⟩; exact own_ne o11 h11.own (by decide) q p hq hp e.symm)
  have ei : IntKind.i64.wrap ((i : Int) + 1) = ((i + 1 : Nat) : Int) := by rw [wrap_i64 (by omega) (by omega)]; omega
  rw [ei]
  have hm1 : (s.uint bs 300 5).1 - (i + 1) = m := by omega
  refine ⟨s', w12, hr12, ⟨plA bs s2 x + 1, i + 1, _, l ++ [⟨plA bs s2 x, (plL bs s2 x).1, (plK bs s2 x).1⟩], by omega, rfl, by omega, by rw [List.length_append, hll]; rfl, fun h0 => ?_, h12, by rw [plV_append]; exact o12, by rw [hm1, e2, List.append_assoc]; rfl, (u10.ext n11.ext).fresh u12 (by rintro j ⟨q, hq, rfl⟩; exact .inl (o11.base q hq).1)⟩, by show (((s.uint bs 300 5).1 : Int) - ((i + 1 : Nat) : Int)).toNat < (((s.uint bs 300 5).1 : Int) - (i : Int)).toNat; omega⟩
  have hL : (plL bs s2 x).2.er = 0 := by
    rcases Decidable.em ((plL bs s2 x).2.er = 0) with h1 | h1
    · exact h1
    · rw [← eK, uint_bad h1] at h0; exact absurd h0 h1
  have hS : (plS bs s2 x).er = 0 := by
    rcases Decidable.em ((plS bs s2 x).er = 0) with h1 | h1
    · exact h1
    · rw [← eL, uint_bad h1] at hL; exact absurd hL h1
  have := (plS_ok hS).2.2
  omega
/-! ### the table -/
def DTO (w : World) (B : Nat) (s : Sl) (T : List (List Pl)) : Prop := ∃ q : List Sl, Own w B 62 1 s (slV q) ∧ q.length = T.length ∧ ∀ (k : Nat) (a : Sl) (l : List Pl), q[k]? = some a → T[k]? = some l → Own w B 89 3 a (plV l)
theorem DTO.ext {so : Sl} {T : List (List Pl)} (h : DTO w B so T) (u : Ext w w') : DTO w' B so T := by
  obtain ⟨q, h1, h2, h3⟩ := h
  exact ⟨q, h1.ext u, h2, fun k a l ha hl => (h3 k a l ha hl).ext u⟩
theorem slV_len (q : List Sl) : (slV q).length = q.length := List.length_map ..
theorem snoc_cases {α : Type} {l : List α} {a x : α} {k : Nat} (h : (l ++ [a])[k]? = some x) : l[k]? = some x ∧ k < l.length ∨ k = l.length ∧ x = a := by
  rcases Nat.lt_or_ge k l.length with hk | hk
  · rw [List.getElem?_append_left hk] at h; exact .inl ⟨h, hk⟩
  · rw [List.getElem?_append_right hk] at h
    have : k - l.length = 0 := by
      have := (List.getElem?_eq_some_iff.1 h).1
      simp at this; omega
    rw [this] at h
    simp at h
    exact .inr ⟨by omega, h.symm⟩
set_option maxHeartbeats 1000000 in
theorem rload_spec {v : Sl} {xs : List Nat} (hr : Rd w 1 v (bv xs)) (hl : v.n ≤ 140737488355328) (h8 : ∀ x ∈ xs, x < 256) :
    Calls Tryd.prog 6 #[.slice v.a v.n v.c] w fun e w' => ∃ s' : Sl, e = .returned (.tuple #[.slice s'.a s'.n s'.c, .int .i64 (if (loadT xs).2.er = 0 then 0 else (loadT xs).2.pl), .int .i64 (loadT xs).2.er]) ∧ ((loadT xs).2.er = 0 → DTO w' w.heap.size s' (loadT xs).1) ∧ Ext w w' := by
  have hvl := hr.lenb
  refine vc_6 _ _ _ ?_
  simp only [eq_self, false_or, or_false, true_and, and_true, decide_eq_true_eq, decide_eq_false_iff_not, gd_st, gd_sf, exists_eq_left', exists_eq_left, Option.some.injEq, Sl.eta, Nat.reduceLeDiff, Int.reduceLE, Int.reduceLT, Int.reduceEq, Int.reduceNe, Nat.reduceMul, Nat.reduceAdd, Nat.reduceSub, Int.toNat_natCast, beq_iff_eq, bne_iff_ne, beq_eq_false_iff_ne, bne_eq_false_iff_eq, pick_and, pick_or, Bool.and_eq_true, Bool.or_eq_true, Bool.and_eq_false_iff, Bool.or_eq_false_iff, ne_eq, not_false_eq_true, Bool.not_eq_true', Bool.not_eq_false', reduceCtorEq, Nat.le_refl, Nat.zero_mul, Nat.mul_one, Nat.zero_add, Int.reduceToNat, ones, one, add_mk, Decidable.not_not, cond_true, cond_false, true_implies, false_implies, implies_true, Bool.not_true, Bool.not_false]
  refine ⟨(rnewreader_spec v xs w hr hl h8).mono ?_⟩
  rintro e w1 ⟨g, sl, rfl, h1, x1⟩
  have hg := h1.base
  refine ⟨_, rfl, ⟨(ruint_spec 50 5 h1).mono ?_⟩⟩
  rintro e w2 ⟨rfl, h2, u2⟩
  have eh : (⟨0, 0, 0⟩ : RS).uint xs 50 5 = hdT xs := rfl
  rw [eh] at h2 ⊢
  have hN : (hdT xs).1 ≤ 50 := uint_le (by decide)
  have eN : IntKind.i64.wrap (((hdT xs).1 : Nat) : Int) = ((hdT xs).1 : Nat) := wrap_i64 (by omega) (by omega)
  have x2 : Ext w w2 := x1.fresh u2 (by rintro i rfl; exact hg)
  refine ⟨_, rfl, ?_⟩
  simp only [eN]
  refine ⟨fun so w' => ∃ s' T', RRd w' w.heap.size g xs s' sl ∧ DTO w' w.heap.size so T' ∧ alT xs = (T', s') ∧ Ext w w', ?_, ?_⟩
  · refine ⟨fun so n w' => ∃ (i : Nat) (s' : RS) (T' : List (List Pl)), n = (i : Nat) ∧ i ≤ (hdT xs).1 ∧ T'.length = i ∧ RRd w' w.heap.size g xs s' sl ∧ DTO w' w.heap.size so T' ∧ alT xs = (T' ++ (rowsT xs ((hdT xs).1 - i) s').1, (rowsT xs ((hdT xs).1 - i) s').2) ∧ Ext w w',
      fun _ n _ => ((hdT xs).1 - n).toNat, ⟨0, _, [], rfl, Nat.zero_le _, rfl, h2, ⟨[], Own.nil _ _ _ _, rfl, fun k a l ha => (by simp at ha)⟩, rfl, x2⟩, ?_⟩
    rintro _ so n w3 ⟨i, s', T', rfl, hi, hTl, h3, D3, ea, x3⟩
    refine ⟨fun hlt => ⟨⟨g, 0, none⟩, rfl, _, h3.blk.cell 3, fun h0 => ⟨(rrow_spec h3).mono ?_⟩, fun hne => ?_⟩, fun hge => ?_⟩
    · rintro e w4 ⟨s4, rfl, o4, h4, u4⟩
      obtain ⟨k, hk⟩ : ∃ k, (hdT xs).1 - i = k + 1 := ⟨(hdT xs).1 - (i + 1), by omega⟩
      have hk1 : (hdT xs).1 - (i + 1) = k := by omega
      rw [hk, rowsT_step h0] at ea
      obtain ⟨q, d1, d2, d3⟩ := D3
      refine ⟨s4, rfl, fun w5 n5 => ?_⟩
      have z3 := x3.size
      have z4 := u4.size
      have z5 := n5.size
      have e1 := (d1.upd u4 (d1.off_blk h3.blk (by decide))).ext n5.ext
      have hqn : so.n = q.length := by have := d1.len1; rw [slV_len] at this; exact this.symm
      have rd : Rd w5 1 ⟨some ⟨w4.heap.size, 0, none⟩, 1, 1⟩ (slV [s4]) := (Blk.new n5).rd (z := 1) (o := 0) (n := 1) (c := 1) (by simp)
      obtain ⟨s6, w6, hr6, _, o6, u6, _⟩ := e1.append (t := 29) (ty := 29) tab_ok rfl rfl (by decide) rd (slV_ones _) (by dsimp only; omega) (by dsimp only; omega) (by omega)
      have h5 := h4.ext n5.ext
      have h6 : RRd w6 w.heap.size g xs (rdT xs s').2 sl := h5.upd u6 (by rintro ⟨p, hp, e⟩; exact own_blk_ne e1 h5.blk (by decide) p hp e.symm) (fun p hp => by rintro ⟨p', hp', e⟩; exact own_ne e1 h5.own (by decide) p' p hp' hp e.symm)
      have ei : IntKind.i64.wrap ((i : Int) + 1) = ((i + 1 : Nat) : Int) := by rw [wrap_i64 (by omega) (by omega)]; omega
      rw [ei]
      have keep : ∀ {a : Sl} {l : List Pl}, Own w5 w.heap.size 89 3 a (plV l) → Own w6 w.heap.size 89 3 a (plV l) := fun ho => ho.upd u6 (by rintro p hp ⟨p', hp', e⟩; exact own_ne e1 ho (by decide) p' p hp' hp e.symm)
      refine ⟨s6, w6, hr6, ⟨i + 1, _, T' ++ [(rdT xs s').1], rfl, by omega, by rw [List.length_append, hTl]; rfl, h6, ⟨q ++ [s4], ?_, by rw [List.length_append, List.length_append, d2]; rfl, fun j a l ha hl => ?_⟩, by rw [hk1, ea, List.append_assoc]; rfl, ((x3.fresh u4 (by rintro j rfl; exact hg)).trans n5.ext).fresh u6 (by rintro j ⟨p, hp, rfl⟩; exact (e1.base p hp).1)⟩, by show (((hdT xs).1 : Int) - ((i + 1 : Nat) : Int)).toNat < (((hdT xs).1 : Int) - (i : Int)).toNat; omega⟩
      · have : slV (q ++ [s4]) = slV q ++ slV [s4] := List.map_append ..
        rw [this]; exact o6
      · rcases snoc_cases ha with ⟨ha, hj⟩ | ⟨hj, rfl⟩
        · rw [List.getElem?_append_left (by omega)] at hl
          have := d3 j a l ha hl
          exact keep ((this.upd u4 (this.off_blk h3.blk (by decide))).ext n5.ext)
        · rw [List.getElem?_append_right (by omega), hj, d2, Nat.sub_self] at hl
          simp at hl; subst hl
          exact keep ((o4.ext n5.ext).mono z3)
    · rw [rowsT_bad hne] at ea
      exact ⟨s', T', h3, D3, by rw [ea]; simp, x3⟩
    · have : (hdT xs).1 - i = 0 := by omega
      rw [this] at ea
      exact ⟨s', T', h3, D3, by rw [ea]; simp [rowsT], x3⟩
  · rintro _ so w3 ⟨s', T', h3, D3, ea, x3⟩
    have el : loadT xs = (T', endT xs s') := by unfold loadT; rw [ea]
    rw [el]
    refine ⟨fun w' => RRd w' w.heap.size g xs (endT xs s') sl ∧ DTO w' w.heap.size so T' ∧ Ext w w', ⟨⟨g, 0, none⟩, rfl, _, h3.blk.cell 1, fun hlt => ⟨⟨g, 0, none⟩, rfl, _, h3.blk.cell 1, ⟨(rfail_spec _ _ h3).mono ?_⟩⟩, fun hge => ⟨?_, D3, x3⟩⟩, ?_⟩
    · rintro e w4 ⟨rfl, h4, u4⟩
      have eE : endT xs s' = s'.fail s'.k 10 := by unfold endT; rw [if_pos (by omega)]
      rw [eE]
      obtain ⟨q, d1, d2, d3⟩ := D3
      exact ⟨_, rfl, h4, ⟨q, d1.upd u4 (d1.off_blk h3.blk (by decide)), d2, fun j a l ha hl => by
        have := d3 j a l ha hl
        exact this.upd u4 (this.off_blk h3.blk (by decide))⟩, x3.fresh u4 (by rintro j rfl; exact hg)⟩
    · have eE : endT xs s' = s' := by unfold endT; rw [if_neg (by omega)]
      rw [eE]
      exact h3
    · rintro _ w4 ⟨h4, D4, x4⟩
      have k4 := h4.blk
      refine ⟨⟨g, 0, none⟩, rfl, _, k4.cell 3, fun hne => ⟨⟨g, 0, none⟩, rfl, _, k4.cell 2, ⟨g, 0, none⟩, rfl, _, k4.cell 3, fun w5 q5 => ⟨⟨none, 0, 0⟩, ?_, fun h0 => absurd h0 hne, x4.trans q5.ext⟩⟩, fun h0 => ⟨so, ?_, fun _ => D4, x4⟩⟩
      · rw [if_neg hne]
      · rw [if_pos h0, h0]
end
end Go.Proofs.YtihnjjmbcbfheaaDoor.V
