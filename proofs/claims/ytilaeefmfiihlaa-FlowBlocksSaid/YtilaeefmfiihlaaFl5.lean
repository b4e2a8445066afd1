/-
  walk.
-/
import Derived.Test.YtilaeefmfiihlaaFl4
namespace Go.Proofs.Ytilaeefmfiihlaa.V
open Go Go.RowKit
set_option linter.unusedVariables false
set_option linter.unusedSimpArgs false
set_option maxRecDepth 100000

def slV (ss : List Sl) : List Value := ss.map fun s => Value.slice s.a s.n s.c
@[simp] theorem slV_length (ss : List Sl) : (slV ss).length = ss.length := by simp [slV]
theorem slV_get {ss : List Sl} {i : Nat} {s : Sl} (h : ss[i]? = some s) : (slV ss)[i]? = some (.slice s.a s.n s.c) := by unfold slV; rw [List.getElem?_map, h]; rfl
/-- places in a block that hold lists of numbers -/
def Lists (w : World) (B b n : Nat) (f : Nat → List Int) : Prop := ∃ ss : List Sl, ss.length = n ∧ Blk w b 30 (slV ss) ∧ ∀ i s, ss[i]? = some s → Own w B 3 1 s (iv (f i))
/-- nodes behind which one may come -/
def frT (c : List Ins) (j : Nat) : List Nat := (List.range c.length).filter fun i => decide (j ∈ nxT c i)
structure GM (w : World) (B g bn bf br : Nat) (c : List Ins) (ov od : Sl) : Prop where
  hd : Blk w g 51 [.slice (some ⟨bn, 0, none⟩) c.length c.length, .slice (some ⟨bf, 0, none⟩) c.length c.length, .slice (some ⟨br, 0, none⟩) c.length c.length, .slice ov.a ov.n ov.c, .slice od.a od.n od.c]
  nx : Lists w B bn c.length fun i => castL (nxT c i)
  fr : Lists w B bf c.length fun i => castL (frT c i)
  lo : B ≤ g ∧ B ≤ bn ∧ B ≤ bf ∧ B ≤ br
def stV (st : List (Nat × Nat)) : List Value := st.flatMap fun p => [.int .i64 (p.1 : Nat), .int .i64 (p.2 : Nat)]
theorem stV_len : ∀ st : List (Nat × Nat), (stV st).length = st.length * 2
  | [] => rfl
  | x :: c => by
    have := stV_len c
    unfold stV at *
    simp only [List.flatMap_cons, List.length_append, List.length_cons, this, List.length_nil]
    omega
theorem stV_append (a b : List (Nat × Nat)) : stV (a ++ b) = stV a ++ stV b := by simp [stV]
theorem stV_ones (c : List (Nat × Nat)) : ∀ v ∈ stV c, one v := by
  intro v hv
  unfold stV at hv
  obtain ⟨x, _, hx⟩ := List.mem_flatMap.1 hv
  simp at hx
  rcases hx with rfl | rfl <;> trivial
theorem nxT_le2 (c : List Ins) (i : Nat) : (nxT c i).length ≤ 2 := by
  have hs := nxT_sorted c i
  have hm : ∀ k ∈ nxT c i, isNx c i k = true := fun k hk => (mem_nxT.1 hk).2
  cases hx : c[i]? with
  | none =>
    cases hl : nxT c i with
    | nil => simp
    | cons a r => have := hm a (by rw [hl]; simp); unfold isNx at this; rw [hx] at this; cases this
  | some x =>
    match hl : nxT c i with
    | [] => simp
    | [_] => simp
    | [_, _] => simp
    | p :: q :: r :: _ =>
      rw [hl] at hs
      simp only [List.pairwise_cons] at hs
      have h1 := (isNx_iff hx).1 (hm p (by rw [hl]; simp))
      have h2 := (isNx_iff hx).1 (hm q (by rw [hl]; simp))
      have h3 := (isNx_iff hx).1 (hm r (by rw [hl]; simp))
      have := hs.1 q (by simp); have := hs.2.1 r (by simp)
      omega
section
variable {w w' : World} {B b n g bn bf br : Nat} {f : Nat → List Int} {c : List Ins} {ov od : Sl} {S : Nat → Prop}
theorem Lists.upd (h : Lists w B b n f) (u : Upd S w w') (hb : ¬ S b) (hn : ∀ k cs, Blk w k 3 cs → ¬ S k) : Lists w' B b n f := by
  obtain ⟨ss, h1, h2, h3⟩ := h
  refine ⟨ss, h1, h2.upd u hb, fun i s hs => (h3 i s hs).upd u fun p hp => ?_⟩
  obtain ⟨g', cs, ha, _, hb', _⟩ := (h3 i s hs).blk (by rw [hp]; simp)
  rw [hp] at ha; injection ha with ha; subst ha
  exact hn _ _ hb'
theorem Lists.get (h : Lists w B b n f) {i : Nat} (hi : i < n) : ∃ s : Sl, w.cell? ⟨b, i, none⟩ = some (.slice s.a s.n s.c) ∧ Own w B 3 1 s (iv (f i)) := by
  obtain ⟨ss, h1, h2, h3⟩ := h
  have hs : ss[i]? = some (ss[i]'(by omega)) := List.getElem?_eq_getElem _
  exact ⟨_, by rw [h2.cell]; exact slV_get hs, h3 i _ hs⟩
theorem GM.upd (h : GM w B g bn bf br c ov od) (u : Upd S w w') (hg : ¬ S g) (h1 : ¬ S bn) (h2 : ¬ S bf) (hn : ∀ k cs, Blk w k 3 cs → ¬ S k) : GM w' B g bn bf br c ov od :=
  ⟨h.hd.upd u hg, h.nx.upd u h1 hn, h.fr.upd u h2 hn, h.lo⟩
theorem GM.bks (h : GM w B g bn bf br c ov od) : (∃ cs, Blk w bn 30 cs) ∧ ∃ cs, Blk w bf 30 cs := by
  obtain ⟨s1, _, h1, _⟩ := h.nx
  obtain ⟨s2, _, h2, _⟩ := h.fr
  exact ⟨⟨_, h1⟩, ⟨_, h2⟩⟩
theorem GM.atbr (h : GM w B g bn bf br c ov od) {cs : List Value} (hr : Blk w br 4 cs) (u : Upd (fun k => k = br) w w') : GM w' B g bn bf br c ov od := by
  obtain ⟨⟨_, h1⟩, _, h2⟩ := h.bks
  exact h.upd u (fun e => h.hd.ne hr (by decide) e) (fun e => h1.ne hr (by decide) e) (fun e => h2.ne hr (by decide) e) fun k cs hk e => hk.ne hr (by decide) e
theorem GM.ext (h : GM w B g bn bf br c ov od) (u : Ext w w') : GM w' B g bn bf br c ov od := h.upd u not_false not_false not_false fun _ _ _ => not_false
/-- where going through stands -/
def WkP (w : World) (br : Nat) (c : List Ins) (m : Nat) (s s1 : Sl) (w' : World) : Prop := ∃ (L : List Nat) (st : List (Nat × Nat)) (rb : List Bool), Dfs c L st rb ∧ Own w' w.heap.size 3 1 s (iv (castL L)) ∧ Own w' w.heap.size 62 2 s1 (stV st) ∧ Blk w' br 4 (bbv rb) ∧
  Upd (fun k => k = br) w w' ∧ m = 4 * (c.length - (L.length + st.length)) + (st.map fun p => 3 - p.2).sum
theorem nodup_lt : ∀ (n : Nat) (l : List Nat), l.Nodup → (∀ x ∈ l, x < n) → l.length ≤ n
  | 0, l, _, h => by
    cases l with
    | nil => exact Nat.le_refl _
    | cons a r => exact absurd (h a (by simp)) (Nat.not_lt_zero _)
  | n + 1, l, hn, h => by
    by_cases hm : n ∈ l
    · have h1 := nodup_lt n (l.erase n) (hn.erase n) fun x hx => by
        have h2 := h x (List.mem_of_mem_erase hx)
        have h3 : x ≠ n := by rintro rfl; exact (List.Nodup.not_mem_erase hn) hx
        omega
      rw [List.length_erase_of_mem hm] at h1
      omega
    · have := nodup_lt n l hn fun x hx => by
        have h2 := h x hx
        have h3 : x ≠ n := by rintro rfl; exact hm hx
        omega
      omega
theorem Dfs.len {L : List Nat} {st : List (Nat × Nat)} {rb : List Bool} (h : Dfs c L st rb) : L.length + st.length ≤ c.length := by
  have h1 := h.nd
  have h2 := nodup_lt _ _ h1 h.lt
  simpa using h2
theorem stV_top (st : List (Nat × Nat)) (x k : Nat) : (stV (st ++ [(x, k)]))[st.length * 2]? = some (.int .i64 (x : Nat)) ∧ (stV (st ++ [(x, k)]))[st.length * 2 + 1]? = some (.int .i64 (k : Nat)) := by
  rw [stV_append]
  constructor
  · rw [List.getElem?_append_right (by rw [stV_len]; exact Nat.le_refl _), stV_len, Nat.sub_self]; rfl
  · rw [List.getElem?_append_right (by rw [stV_len]; omega), stV_len, show st.length * 2 + 1 - st.length * 2 = 1 by omega]; rfl
theorem stV_set (st : List (Nat × Nat)) (x k k' : Nat) : (stV (st ++ [(x, k)])).set (st.length * 2 + 1) (.int .i64 (k' : Nat)) = stV (st ++ [(x, k')]) := by
  rw [stV_append, stV_append, List.set_append_right _ _ (by rw [stV_len]; omega), stV_len, show st.length * 2 + 1 - st.length * 2 = 1 by omega]
  rfl
theorem walk_spec (G : GM w B g bn bf br c ov od) (hr : Blk w br 4 (bbv (List.replicate c.length false))) (hm : c.length ≤ 1000) :
    Calls Try.prog 27 #[.pointer (some ⟨g, 0, none⟩)] w fun e w' => ∃ (s : Sl) (rows : List Nat) (rb : List Bool), e = .returned (.slice s.a s.n s.c) ∧ Own w' w.heap.size 3 1 s (iv (castL rows)) ∧ RowsOk c rows rb ∧ Blk w' br 4 (bbv rb) ∧ Upd (fun k => k = br) w w' := by
  refine vc_27 _ _ _ ?_
  obtain ⟨⟨_, kbn⟩, _, kbf⟩ := G.bks
  have glo := G.lo
  simp only [eq_self, false_or, or_false, true_and, and_true, decide_eq_true_eq, decide_eq_false_iff_not, gd_st, gd_sf, exists_eq_left', exists_eq_left, Option.some.injEq, Sl.eta, Nat.reduceLeDiff, Int.reduceLE, Int.reduceLT, Int.reduceEq, Int.reduceNe, Nat.reduceMul, Nat.reduceAdd, Nat.reduceSub, Int.toNat_natCast, beq_iff_eq, bne_iff_ne, beq_eq_false_iff_ne, bne_eq_false_iff_eq, pick_and, pick_or, Bool.and_eq_true, Bool.or_eq_true, Bool.and_eq_false_iff, Bool.or_eq_false_iff, ne_eq, not_false_eq_true, Bool.not_eq_true', Bool.not_eq_false', reduceCtorEq, Nat.le_refl, Nat.zero_mul, Nat.mul_one, Nat.zero_add, Int.reduceToNat, ones, one, add_mk, Decidable.not_not, cond_true, cond_false, true_implies, false_implies, implies_true, Bool.not_true, Bool.not_false]
  refine ⟨⟨some ⟨bn, 0, none⟩, c.length, c.length⟩, G.hd.cell 0, fun h0 => ?_, fun h0 => ?_⟩
  · have hc : c = [] := List.eq_nil_of_length_eq_zero (by dsimp only at h0; omega)
    subst hc
    refine ⟨⟨none, 0, 0⟩, [], [], rfl, Own.nil _ _ _ _, ⟨.nil, fun x => ⟨fun h => (by cases h), fun h => ?_⟩, fun x h => (by cases h), rfl, fun x hx => absurd hx (Nat.not_lt_zero _), fun h => absurd rfl h, fun y h => (by cases h)⟩, hr, Upd.refl _ _⟩
    have : ∀ x, ¬ Rc [] x := fun x hx => by
      induction hx with
      | zero h => exact h rfl
      | step _ e _ ih => exact ih
    exact absurd h (this x)
  have hc0 : 0 < c.length := by dsimp only at h0; omega
  intro w1 n1
  have z1 := n1.size
  have G1 := G.ext n1.ext
  have R1 := hr.ext n1.ext
  refine ⟨⟨some ⟨br, 0, none⟩, c.length, c.length⟩, G1.hd.cell 2, by dsimp only; omega, _, rfl, R1.canSet 0 (by simp; omega), fun w2 s2 => ?_⟩
  have u2 : Upd (fun k => k = br) w1 w2 := s2.upd
  have R2 := s2.blk1 R1
  have u02 : Upd (fun k => k = br) w w2 := n1.ext.toS.trans u2 fun _ _ h => ⟨h, h⟩
  have hst : Own w2 w.heap.size 62 2 ⟨some ⟨w.heap.size, 0, none⟩, 1, 1⟩ (stV [(0, 0)]) := (Own.lit (z := 2) (n := 1) (cs := [.int .i64 0, .int .i64 0]) n1 (Nat.le_refl _) rfl (by decide)).upd u2 (by rintro p hp; injection hp with hp; subst hp; have := hr.lt; dsimp only; omega)
  have R2' : Blk w2 br 4 (bbv ((List.replicate c.length false).set 0 true)) := by
    have e : bbv ((List.replicate c.length false).set 0 true) = (bbv (List.replicate c.length false)).set 0 (.bool true) := by unfold bbv; rw [List.map_set]
    rw [e]; exact R2
  refine ⟨fun s s1 w' => ∃ m, WkP w br c m s s1 w', fun s s1 w' => least fun m => WkP w br c m s s1 w', ⟨_, [], [(0, 0)], _, Dfs.start hc0, Own.nil _ _ _ _, hst, R2', u02, rfl⟩, ?_⟩
  rintro _ s s1 w3 hJ
  have hP := least_spec hJ
  obtain ⟨m0, em0⟩ : ∃ m0, m0 = (least fun m => WkP w br c m s s1 w3) := ⟨_, rfl⟩
  rw [← em0] at hP
  obtain ⟨L, st, rb, D, oL, oS, R3, u3, hm0⟩ := hP
  have hlen := D.len
  have hLn := oL.rd.leni
  have hSn := oS.rd.1
  rw [stV_len] at hSn
  have hcast : (castL L).length = L.length := by unfold castL; rw [List.length_map]
  have G3 := G.atbr hr u3
  have z3 := u3.size
  refine ⟨fun hpos => ?_, fun hz => ?_⟩
  rotate_left
  · have : st = [] := List.eq_nil_of_length_eq_zero (by omega)
    subst this
    refine ⟨(reverse_spec oL (by omega)).mono ?_⟩
    rintro e w4 ⟨rfl, o4, u4⟩
    refine ⟨_, rfl, s, L.reverse, rb, rfl, by unfold castL at o4 ⊢; rw [List.map_reverse]; exact o4, D.done, R3.upd u4 (by rintro ⟨p, hp, e⟩; exact own_blk_ne oL R3 (by decide) p hp e.symm), u3.trans u4 fun k hk h => ⟨h, by rintro ⟨p, hp, rfl⟩; have := (oL.base p hp).1; omega⟩⟩
  rcases List.eq_nil_or_concat st with rfl | ⟨st0, ⟨x, k⟩, rfl⟩
  · simp at hSn; omega
  rw [List.concat_eq_append] at *
  have hSn' : s1.n = st0.length + 1 := by rw [List.length_append] at hSn; simp at hSn; omega
  have e1 : IntKind.i64.wrap ((s1.n : Int) - 1) = ((st0.length : Nat) : Int) := by rw [wrap_i64 (by omega) (by omega)]; omega
  rw [e1]
  have hxc : x < c.length := D.lt x (by simp)
  obtain ⟨ax, ak⟩ := stV_top st0 x k
  obtain ⟨p, hp, hcells⟩ := oS.rd.2 (by omega)
  have hkle := D.k (x, k) (by simp)
  have hk2 := nxT_le2 c x
  obtain ⟨s3, hs3, o3⟩ := G3.nx.get hxc
  have hl3 := o3.rd.leni
  have hcast3 : (castL (nxT c x)).length = (nxT c x).length := by unfold castL; rw [List.length_map]
  have kcell : w3.cell? ((p.add (st0.length * 2)).add 1) = some (.int .i64 (k : Nat)) := by rw [add_add]; exact hcells _ _ ak
  have xcell : w3.cell? ((p.add (st0.length * 2)).add 0) = some (.int .i64 (x : Nat)) := by rw [add_add]; exact hcells _ _ ax
  have ncell : w3.cell? ((⟨bn, 0, none⟩ : Addr).add x) = some (.slice s3.a s3.n s3.c) := by rw [add_mk, Nat.zero_add]; exact hs3
  rw [Int.toNat_natCast]
  simp only [cut0]
  have sumap : ∀ (a : List (Nat × Nat)) (q : Nat × Nat), ((a ++ [q]).map fun p => 3 - p.2).sum = (a.map fun p => 3 - p.2).sum + (3 - q.2) := fun a q => by rw [List.map_append, List.sum_append]; simp
  rw [sumap, List.length_append, List.length_singleton] at hm0
  rw [List.length_append, List.length_singleton] at hlen
  dsimp only at hm0 hkle
  refine ⟨by omega, by omega, p, hp, _, kcell, ⟨some ⟨bn, 0, none⟩, c.length, c.length⟩, G3.hd.cell 0, _, xcell, by omega, by dsimp only; omega, _, rfl, s3, by rw [Int.toNat_natCast]; exact ncell, fun w4 q4 => ?_⟩
  have G4 := G3.ext q4.ext
  have oS4 := oS.ext q4.ext
  have oL4 := oL.ext q4.ext
  have R4 := R3.ext q4.ext
  have z4 := q4.size
  have xcell4 : w4.cell? ((p.add (st0.length * 2)).add 0) = some (.int .i64 (x : Nat)) := by rw [q4.cell]; exact xcell
  have kcell4 : w4.cell? ((p.add (st0.length * 2)).add 1) = some (.int .i64 (k : Nat)) := by rw [q4.cell]; exact kcell
  have ncell4 : w4.cell? ((⟨bn, 0, none⟩ : Addr).add x) = some (.slice s3.a s3.n s3.c) := by rw [q4.cell]; exact ncell
  have u04 : Upd (fun k => k = br) w w4 := u3.trans q4.ext.toS fun _ _ h => ⟨h, h⟩
  refine ⟨fun hk => ⟨_, xcell4, fun w5 n5 => ?_⟩, fun hk => ⟨⟨some ⟨bn, 0, none⟩, c.length, c.length⟩, G4.hd.cell 0, _, xcell4, by omega, by dsimp only; omega, _, rfl, s3, by rw [Int.toNat_natCast]; exact ncell4, _, kcell4, ?_⟩⟩
  · have z5 := n5.size
    have rd : Rd w5 1 ⟨some ⟨w4.heap.size, 0, none⟩, 1, 1⟩ (iv [(x : Int)]) := (Blk.new n5).rd (z := 1) (o := 0) (n := 1) (c := 1) (by simp)
    obtain ⟨s6, w6, hr6, hn6, o6, u6, _⟩ := (oL4.ext n5.ext).append (t := 30) (ty := 30) tab_ok (by rfl) (by rfl) (by decide) rd (iv_ones _) (by dsimp only; omega) (by dsimp only; omega) (by omega)
    have hkd : k = (nxT c x).length := by omega
    have hcap := oS.cap
    have D6 := D.pop hkd
    have oS6 := (oS4.ext n5.ext).upd u6 (by rintro q hq ⟨q', hq', e⟩; exact own_ne oS4 oL4 (by decide) q q' hq hq' e)
    have sh := oS6.short (m := st0.length) (by omega)
    have et : (stV (st0 ++ [(x, k)])).take (st0.length * 2) = stV st0 := by rw [stV_append, List.take_append_of_le_length (by rw [stV_len]; exact Nat.le_refl _), List.take_of_length_le (by rw [stV_len]; exact Nat.le_refl _)]
    rw [et] at sh
    have P6 : WkP w br c (4 * (c.length - ((L ++ [x]).length + st0.length)) + (st0.map fun p => 3 - p.2).sum) s6 ⟨s1.a, st0.length, s1.c⟩ w6 :=
      ⟨L ++ [x], st0, rb, D6, by unfold castL at o6 ⊢; rw [List.map_append, iv_append]; exact o6, sh, (R4.ext n5.ext).upd u6 (by rintro ⟨q, hq, e⟩; exact own_blk_ne oL4 R4 (by decide) q hq e.symm), (u04.trans n5.ext.toS fun _ _ h => ⟨h, h⟩).trans u6 fun i hi h => ⟨h, by rintro ⟨q, hq, rfl⟩; have := (oL4.base q hq).1; omega⟩, rfl⟩
    refine ⟨s6, w6, hr6, by omega, by omega, ⟨_, P6⟩, Nat.lt_of_le_of_lt (least_le P6) ?_⟩
    rw [← em0, hm0, List.length_append, List.length_singleton]
    omega
  · have hkl : k < (nxT c x).length := by omega
    obtain ⟨y, hy⟩ : ∃ y, (nxT c x)[k]? = some y := ⟨_, List.getElem?_eq_getElem hkl⟩
    have hyn := (mem_nxT.1 (List.mem_of_getElem? hy)).1
    have o34 := o3.ext q4.ext
    obtain ⟨p3, hp3, hc3⟩ := o34.rd.2 (by omega)
    have hyc : w4.cell? (p3.add k) = some (.int .i64 (y : Nat)) := hc3 k _ (by unfold iv castL; rw [List.getElem?_map, List.getElem?_map, hy]; rfl)
    refine ⟨by omega, by omega, p3, hp3, _, by rw [Int.toNat_natCast]; exact hyc, fun w5 q5 => ?_⟩
    have oS5 := oS4.ext q5.ext
    have oL5 := oL4.ext q5.ext
    have R5 := R4.ext q5.ext
    have G5 := G4.ext q5.ext
    have z5 := q5.size
    have u05 : Upd (fun k => k = br) w w5 := u04.trans q5.ext.toS fun _ _ h => ⟨h, h⟩
    have ek : IntKind.i64.wrap ((k : Int) + 1) = ((k + 1 : Nat) : Int) := by rw [wrap_i64 (by omega) (by omega)]; omega
    refine ⟨_, by rw [q5.cell]; exact kcell4, by rw [add_add]; exact oS5.canAt hp (by omega), fun w6 s6 => ?_⟩
    rw [ek, add_add] at s6
    obtain ⟨oS6, u6⟩ := oS5.setAt hp (by omega) s6
    rw [stV_set] at oS6
    have pb := oS5.base p hp
    have R6 := R5.upd u6 (fun e => own_blk_ne oS5 R5 (by decide) p hp e.symm)
    have oL6 := oL5.upd u6 (fun q hq e => own_ne oS5 oL5 (by decide) p q hp hq e.symm)
    have u06 : Upd (fun k => k = br) w w6 := u05.trans u6 fun i hi h => ⟨h, fun e => by omega⟩
    have G6 := G.atbr hr u06
    have z6 := u6.size
    have hrbl := D.rbl
    have hrc : ∀ b, rb[y]? = some b → w6.cell? ((⟨br, 0, none⟩ : Addr).add y) = some (.bool b) := fun b hb => by rw [add_mk, Nat.zero_add, R6.cell]; unfold bbv; rw [List.getElem?_map, hb]; rfl
    obtain ⟨b, hb⟩ : ∃ b, rb[y]? = some b := ⟨_, List.getElem?_eq_getElem (by omega)⟩
    refine ⟨⟨some ⟨br, 0, none⟩, c.length, c.length⟩, G6.hd.cell 2, by omega, by dsimp only; omega, _, rfl, b, by rw [Int.toNat_natCast]; exact hrc b hb, fun hbf => ?_, fun hbt => ?_⟩
    · subst hbf
      have hyb : y < (bbv rb).length := by rw [bbv_length]; omega
      refine ⟨⟨some ⟨br, 0, none⟩, c.length, c.length⟩, G6.hd.cell 2, by omega, by dsimp only; omega, _, rfl, by rw [Int.toNat_natCast, add_mk, Nat.zero_add]; exact R6.canSet y hyb, fun w7 s7 => ⟨rfl, fun w8 n8 => ?_⟩⟩
      rw [Int.toNat_natCast, add_mk, Nat.zero_add] at s7
      have u7 : Upd (fun k => k = br) w6 w7 := s7.upd
      have R7 : Blk w7 br 4 (bbv (rb.set y true)) := by
        have e : bbv (rb.set y true) = (bbv rb).set y (.bool true) := by unfold bbv; rw [List.map_set]
        rw [e]; exact s7.blk1 R6
      have oS7 := oS6.upd u7 (fun q hq e => own_blk_ne oS6 R6 (by decide) q hq e)
      have oL7 := oL6.upd u7 (fun q hq e => own_blk_ne oL6 R6 (by decide) q hq e)
      have z7 := s7.size
      have z8 := n8.size
      have D7 := D.push hy hb
      have hlen7 := D7.len
      rw [List.length_append, List.length_append, List.length_singleton, List.length_singleton] at hlen7
      have rd : Rd w8 2 ⟨some ⟨w7.heap.size, 0, none⟩, 1, 1⟩ (stV [(y, 0)]) := (Blk.new n8).rd (z := 2) (o := 0) (n := 1) (c := 1) (by simp)
      obtain ⟨s9, w9, hr9, hn9, o9, u9, _⟩ := (oS7.ext n8.ext).append (t := 63) (ty := 63) tab_ok (by rfl) (by rfl) (by decide) rd (stV_ones _) (by dsimp only; omega) (by dsimp only; omega) (by omega)
      have P9 : WkP w br c (4 * (c.length - (L.length + ((st0 ++ [(x, k + 1)]) ++ [(y, 0)]).length)) + (((st0 ++ [(x, k + 1)]) ++ [(y, 0)]).map fun (p : Nat × Nat) => 3 - p.2).sum) s s9 w9 :=
        ⟨L, _, _, D7, (oL7.ext n8.ext).upd u9 (by rintro q hq ⟨q', hq', e⟩; exact own_ne oS7 oL7 (by decide) q' q hq' hq e.symm), by rw [stV_append]; exact o9, (R7.ext n8.ext).upd u9 (by rintro ⟨q, hq, e⟩; exact own_blk_ne oS7 R7 (by decide) q hq e.symm),
          ((u06.trans u7 fun _ _ h => ⟨h, h⟩).trans n8.ext.toS fun _ _ h => ⟨h, h⟩).trans u9 fun i hi h => ⟨h, by rintro ⟨q, hq, rfl⟩; have := (oS7.base q hq).1; omega⟩, rfl⟩
      refine ⟨s9, w9, hr9, ⟨_, P9⟩, Nat.lt_of_le_of_lt (least_le P9) ?_⟩
      rw [← em0, hm0, sumap, sumap, List.length_append, List.length_append, List.length_singleton, List.length_singleton]
      dsimp only
      omega
    · subst hbt
      have D6 := D.adv hy ((D.rb y (by omega)).1 hb)
      have P6 : WkP w br c (4 * (c.length - (L.length + (st0 ++ [(x, k + 1)]).length)) + ((st0 ++ [(x, k + 1)]).map fun (p : Nat × Nat) => 3 - p.2).sum) s s1 w6 := ⟨L, _, rb, D6, oL6, oS6, R6, u06, rfl⟩
      refine ⟨⟨_, P6⟩, Nat.lt_of_le_of_lt (least_le P6) ?_⟩
      rw [← em0, hm0, sumap, List.length_append, List.length_singleton]
      dsimp only
      omega
end
end Go.Proofs.Ytilaeefmfiihlaa.V
