/-
  nearest.
-/
import Derived.Test.YtilaeefmfiihlaaFl6
namespace Go.Proofs.Ytilaeefmfiihlaa.V
open Go Go.RowKit
set_option linter.unusedVariables false
set_option linter.unusedSimpArgs false
set_option maxRecDepth 100000

def pos : List Nat → Nat → Nat
  | [], _ => 0
  | a :: r, x => if a = x then 0 else pos r x + 1
theorem pos_get : ∀ {l : List Nat} {x : Nat}, x ∈ l → l[pos l x]? = some x
  | [], _, h => by cases h
  | a :: r, x, h => by
    unfold pos
    by_cases e : a = x
    · rw [if_pos e]; simp [e]
    · rw [if_neg e, List.getElem?_cons_succ]
      exact pos_get ((List.mem_cons.1 h).resolve_left fun h => e h.symm)
theorem pos_of : ∀ {l : List Nat} {x i : Nat}, l.Nodup → l[i]? = some x → pos l x = i
  | [], _, _, _, h => by simp at h
  | a :: r, x, 0, _, h => by simp at h; subst h; unfold pos; rw [if_pos rfl]
  | a :: r, x, i + 1, hn, h => by
    rw [List.getElem?_cons_succ] at h
    rw [List.nodup_cons] at hn
    have : a ≠ x := by rintro rfl; exact hn.1 (List.mem_of_getElem? h)
    unfold pos
    rw [if_neg this, pos_of hn.2 h]
theorem RowsOk.ord {c : List Ins} {rows : List Nat} {rb : List Bool} (h : RowsOk c rows rb) (hc : c ≠ []) : Ord (Eg c) (Rc c) (pos rows) := by
  obtain ⟨r, hr⟩ := h.hd hc
  refine ⟨(h.mem 0).1 (by rw [hr]; simp), by rw [hr]; unfold pos; rw [if_pos rfl], fun x y hx hy e => ?_, fun x hx h0 => ?_, fun f x e hf => .step hf e (by have := (mem_nxT.1 e).1; omega)⟩
  · have h1 := pos_get ((h.mem x).2 hx)
    have h2 := pos_get ((h.mem y).2 hy)
    rw [e, h2] at h1; injection h1 with h1; exact h1.symm
  · obtain ⟨f, e, i, j, hij, hi, hj⟩ := h.par x ((h.mem x).2 hx) h0
    exact ⟨f, e, (h.mem f).1 (List.mem_of_getElem? hi), by rw [pos_of h.nd hi, pos_of h.nd hj]; exact hij⟩
structure NearOk (c : List Ins) (o : Nat → Nat) (ov : Nat → Option Nat) : Prop where
  I : Inv (Eg c) (Rc c) o ov
  D : ∀ x, Rc c x → ∀ d, Ch ov x d ↔ ¬ Av (Eg c) d x
  P : ∀ x, Rc c x → Pd ov x
structure NS (w w' : World) (g bn bf br bo bd : Nat) (c : List Ins) (rb : List Bool) (xs ys : List Value) : Prop where
  hd : Blk w' g 51 [.slice (some ⟨bn, 0, none⟩) c.length c.length, .slice (some ⟨bf, 0, none⟩) c.length c.length, .slice (some ⟨br, 0, none⟩) c.length c.length, .slice (some ⟨bo, 0, none⟩) c.length c.length, .slice (some ⟨bd, 0, none⟩) c.length c.length]
  R : Blk w' br 4 (bbv rb)
  O : Blk w' bo 3 xs
  D : Blk w' bd 3 ys
  x : Upd (fun k => k = g ∨ w.heap.size ≤ k) w w'
section
variable {w w' w'' : World} {B B' g bn bf br bo bd i : Nat} {c : List Ins} {rb : List Bool} {xs ys : List Value} {rows : List Nat} {s : Sl} {v : Value}
theorem NS.ext (h : NS w w' g bn bf br bo bd c rb xs ys) (u : Ext w' w'') : NS w w'' g bn bf br bo bd c rb xs ys :=
  ⟨h.hd.ext u, h.R.ext u, h.O.ext u, h.D.ext u, h.x.trans u.toS fun _ _ h => ⟨h, h⟩⟩
theorem NS.setO (h : NS w w' g bn bf br bo bd c rb xs ys) (hne : bo ≠ bd) (hb : w.heap.size ≤ bo) (s : SetW w' ⟨bo, i, none⟩ [v] w'') : NS w w'' g bn bf br bo bd c rb (xs.set i v) ys := by
  have u : Upd (fun k => k = bo) w' w'' := s.upd
  exact ⟨h.hd.upd u (h.hd.ne h.O (by decide)), h.R.upd u (h.R.ne h.O (by decide)), s.blk1 h.O, h.D.upd u hne.symm, h.x.trans u fun k _ hk => ⟨hk, fun e => hk (.inr (by rw [e]; exact hb))⟩⟩
theorem NS.setD (h : NS w w' g bn bf br bo bd c rb xs ys) (hne : bo ≠ bd) (hb : w.heap.size ≤ bd) (s : SetW w' ⟨bd, i, none⟩ [v] w'') : NS w w'' g bn bf br bo bd c rb xs (ys.set i v) := by
  have u : Upd (fun k => k = bd) w' w'' := s.upd
  exact ⟨h.hd.upd u (h.hd.ne h.D (by decide)), h.R.upd u (h.R.ne h.D (by decide)), h.O.upd u hne, s.blk1 h.D, h.x.trans u fun k _ hk => ⟨hk, fun e => hk (.inr (by rw [e]; exact hb))⟩⟩
/-- how far up, in all -/
def hi (c : List Ins) (o : Nat → Nat) (ov : Nat → Option Nat) (x : Nat) : Nat := match ov x with
  | none => c.length + 1
  | some z => o z
def NearP (w : World) (g bn bf br bo bd : Nat) (c : List Ins) (rb : List Bool) (rows : List Nat) (ys : List Value) (m : Nat) (b : Bool) (w' : World) : Prop := ∃ ov : Nat → Option Nat, NS w w' g bn bf br bo bd c rb (ovV c.length ov) ys ∧ Inv (Eg c) (Rc c) (pos rows) ov ∧
  (b = true → InP (Eg c) (Rc c) (pos rows) 0 ov ∧ m = (rows.map (hi c (pos rows) ov)).sum + 1) ∧
  (b = false → InP (Eg c) (Rc c) (pos rows) rows.length ov ∧ (∀ x, Rc c x → x ≠ 0 → ∃ y, ov x = some y ∧ Nearest (Eg c) (Rc c) ov x y) ∧ m = 0)
theorem nearest_spec (G : GM w B g bn bf br c ⟨none, 0, 0⟩ ⟨none, 0, 0⟩) (hr : Blk w br 4 (bbv rb)) (RO : RowsOk c rows rb) (hs : Own w B' 3 1 s (iv (castL rows))) (hm : c.length ≤ 1000) :
    Calls Try.prog 28 #[.pointer (some ⟨g, 0, none⟩), .slice s.a s.n s.c] w fun e w' => ∃ (v : Value) (ov : Nat → Option Nat) (o : Nat → Nat) (bo bd : Nat), e = .returned v ∧ NearOk c o ov ∧
      GM w' B g bn bf br c ⟨some ⟨bo, 0, none⟩, c.length, c.length⟩ ⟨some ⟨bd, 0, none⟩, c.length, c.length⟩ ∧ Blk w' br 4 (bbv rb) ∧ Blk w' bo 3 (ovV c.length ov) ∧ Upd (fun k => k = g) w w' := by
  refine vc_28 _ _ _ _ ?_
  obtain ⟨⟨_, kbn⟩, _, kbf⟩ := G.bks
  have lbn := kbn.lt; have lbf := kbf.lt; have lg := G.hd.lt; have lbr := hr.lt
  have hsn := hs.rd.leni
  have hcast : (castL rows).length = rows.length := by unfold castL; rw [List.length_map]
  have hrl : rows.length ≤ c.length := nodup_lt _ _ RO.nd RO.lt
  have rowsAt : ∀ w', Upd (fun k => k = g ∨ w.heap.size ≤ k) w w' → Rd w' 1 s (iv (castL rows)) := fun w' u => (hs.upd u fun p hp e => by
    rcases e with e | e
    · exact own_blk_ne hs G.hd (by decide) p hp e
    · have := (hs.base p hp).2; omega).rd
  have noI : ∀ k cs, Blk w k 3 cs → ¬ (k = g ∨ w.heap.size ≤ k) := fun k cs hk e => by
    rcases e with e | e
    · exact hk.ne G.hd (by decide) e
    · have := hk.lt; omega
  have nbn : ¬ (bn = g ∨ w.heap.size ≤ bn) := by
    rintro (e | e)
    · exact kbn.ne G.hd (by decide) e
    · omega
  have nbf : ¬ (bf = g ∨ w.heap.size ≤ bf) := by
    rintro (e | e)
    · exact kbf.ne G.hd (by decide) e
    · omega
  simp only [eq_self, false_or, or_false, true_and, and_true, decide_eq_true_eq, decide_eq_false_iff_not, gd_st, gd_sf, exists_eq_left', exists_eq_left, Option.some.injEq, Sl.eta, Nat.reduceLeDiff, Int.reduceLE, Int.reduceLT, Int.reduceEq, Int.reduceNe, Nat.reduceMul, Nat.reduceAdd, Nat.reduceSub, Int.toNat_natCast, beq_iff_eq, bne_iff_ne, beq_eq_false_iff_ne, bne_eq_false_iff_eq, pick_and, pick_or, Bool.and_eq_true, Bool.or_eq_true, Bool.and_eq_false_iff, Bool.or_eq_false_iff, ne_eq, not_false_eq_true, Bool.not_eq_true', Bool.not_eq_false', reduceCtorEq, Nat.le_refl, Nat.zero_mul, Nat.mul_one, Nat.zero_add, Int.reduceToNat, ones, one, add_mk, Decidable.not_not, cond_true, cond_false, true_implies, false_implies, implies_true, Bool.not_true, Bool.not_false]
  refine ⟨⟨some ⟨bn, 0, none⟩, c.length, c.length⟩, G.hd.cell 0, ⟨by omega, by omega, by dsimp only; omega, by dsimp only; omega⟩, fun w1 n1 => ?_⟩
  have z1 := n1.size
  have k1 := Blk.new n1
  rw [zrow_one] at k1
  dsimp only at k1
  have hd1 := G.hd.ext n1.ext
  refine ⟨hd1.canSet 3 (by simp), fun w2 s2 => ?_⟩
  have hd2 := s2.blk1 hd1
  simp only [List.set] at hd2
  have u2 : Upd (fun k => k = g) w1 w2 := s2.upd
  have z2 := s2.size
  have O2 := k1.upd u2 (by omega)
  refine ⟨⟨some ⟨bn, 0, none⟩, c.length, c.length⟩, hd2.cell 0, ⟨by omega, by omega, by dsimp only; omega, by dsimp only; omega⟩, fun w3 n3 => ?_⟩
  have z3 := n3.size
  have k3 := Blk.new n3
  rw [zrow_one] at k3
  dsimp only at k3
  have hd3 := hd2.ext n3.ext
  refine ⟨hd3.canSet 4 (by simp), fun w4 s4 => ?_⟩
  have hd4 := s4.blk1 hd3
  simp only [List.set] at hd4
  have u4 : Upd (fun k => k = g) w3 w4 := s4.upd
  have z4 := s4.size
  obtain ⟨bo, bd, hbo, hbd, hne, N4⟩ : ∃ bo bd, w.heap.size ≤ bo ∧ w.heap.size ≤ bd ∧ bo ≠ bd ∧ NS w w4 g bn bf br bo bd c rb (List.replicate c.length (.int .i64 0)) (List.replicate c.length (.int .i64 0)) :=
    ⟨w.heap.size, w2.heap.size, Nat.le_refl _, by omega, by omega, hd4, (((hr.ext n1.ext).upd u2 (hr.ne G.hd (by decide))).ext n3.ext).upd u4 (hr.ne G.hd (by decide)), (O2.ext n3.ext).upd u4 (by omega), k3.upd u4 (by omega),
      (((n1.ext.toS (S := fun k => k = g ∨ w.heap.size ≤ k)).trans u2 fun k _ h => ⟨h, fun e => h (.inl e)⟩).trans n3.ext.toS fun k _ h => ⟨h, h⟩).trans u4 fun k _ h => ⟨h, fun e => h (.inl e)⟩⟩
  clear hd4 hd3 hd2 hd1 u4 u2 O2 k1 k3 s2 s4
  have rget : ∀ w', Upd (fun k => k = g ∨ w.heap.size ≤ k) w w' → ∀ k, k < rows.length → ∃ p x, s.a = some p ∧ rows[k]? = some x ∧ w'.cell? (p.add k) = some (.int .i64 (x : Nat)) := fun w' u k hk => by
    obtain ⟨p, hp, hc⟩ := (rowsAt w' u).2 (by omega)
    have hx : rows[k]? = some rows[k] := List.getElem?_eq_getElem hk
    exact ⟨p, _, hp, hx, hc k _ (by unfold iv castL; rw [List.getElem?_map, List.getElem?_map, hx]; rfl)⟩
  refine ⟨⟨some ⟨bo, 0, none⟩, c.length, c.length⟩, N4.hd.cell 3, fun n w' => ∃ k : Nat, n = (k : Nat) ∧ k ≤ c.length ∧ NS w w' g bn bf br bo bd c rb (List.replicate k (.int .i64 (-1)) ++ List.replicate (c.length - k) (.int .i64 0)) (List.replicate c.length (.int .i64 0)), fun n _ => (c.length - n).toNat, ⟨0, rfl, Nat.zero_le _, by simpa using N4⟩, ?_⟩
  rintro _ n w5 ⟨k, rfl, hk, N5⟩
  have ek : IntKind.i64.wrap ((k : Int) + 1) = ((k + 1 : Nat) : Int) := by rw [wrap_i64 (by omega) (by omega)]; omega
  rw [ek]
  refine ⟨fun hlt => ?_, fun hge => ?_⟩
  · have hlt' : k < c.length := by have : ((k : Nat) : Int) < ((c.length : Nat) : Int) := hlt; omega
    refine ⟨⟨some ⟨bo, 0, none⟩, c.length, c.length⟩, N5.hd.cell 3, by omega, hlt, _, rfl, by rw [Int.toNat_natCast, add_mk, Nat.zero_add]; exact N5.O.canSet k (by simp; omega), fun w6 s6 => ⟨⟨k + 1, rfl, by omega, ?_⟩, by dsimp only; omega⟩⟩
    rw [Int.toNat_natCast, add_mk, Nat.zero_add] at s6
    have N6 := N5.setO hne hbo s6
    have e : (List.replicate k (Value.int .i64 (-1)) ++ List.replicate (c.length - k) (Value.int .i64 0)).set k (Value.int .i64 (-1)) = List.replicate (k + 1) (Value.int .i64 (-1)) ++ List.replicate (c.length - (k + 1)) (Value.int .i64 0) := by
      rw [List.set_append_right _ _ (by simp), List.length_replicate, Nat.sub_self, show c.length - k = (c.length - (k + 1)) + 1 by omega, List.replicate_succ, List.set_cons_zero, List.replicate_succ', List.append_assoc]
      rfl
    rw [← e]; exact N6
  have hkc : k = c.length := by have : ¬ ((k : Nat) : Int) < ((c.length : Nat) : Int) := hge; omega
  subst hkc
  rw [Nat.sub_self, List.replicate_zero, List.append_nil] at N5
  have e0 : List.replicate c.length (Value.int .i64 (-1)) = ovV c.length fun _ => none := by
    apply List.ext_getElem?
    intro i
    by_cases hi : i < c.length
    · rw [ovV_get hi, List.getElem?_replicate, if_pos hi]; rfl
    · rw [List.getElem?_eq_none (by simp; omega), List.getElem?_eq_none (by simp; omega)]
  rw [e0] at N5
  refine ⟨fun n w' => ∃ (k : Nat) (ys : List Value), n = (k : Nat) ∧ k ≤ rows.length ∧ ys.length = c.length ∧ (∀ i x, i < k → rows[i]? = some x → ys[x]? = some (.int .i64 (i : Nat))) ∧ NS w w' g bn bf br bo bd c rb (ovV c.length fun _ => none) ys, fun n _ => (rows.length - n).toNat, ⟨0, _, rfl, Nat.zero_le _, by simp, fun i x h => absurd h (Nat.not_lt_zero _), N5⟩, ?_⟩
  rintro _ n w6 ⟨k, ys, rfl, hk6, hyl, hys, N6⟩
  have ek : IntKind.i64.wrap ((k : Int) + 1) = ((k + 1 : Nat) : Int) := by rw [wrap_i64 (by omega) (by omega)]; omega
  rw [ek]
  refine ⟨fun hlt => ?_, fun hge => ?_⟩
  · obtain ⟨p, x, hp, hx, hcx⟩ := rget w6 N6.x k (by omega)
    have hxc := RO.lt x (List.mem_of_getElem? hx)
    refine ⟨by omega, hlt, p, hp, _, by rw [Int.toNat_natCast]; exact hcx, ⟨some ⟨bd, 0, none⟩, c.length, c.length⟩, N6.hd.cell 4, by omega, by dsimp only; omega, _, rfl, by rw [Int.toNat_natCast, add_mk, Nat.zero_add]; exact N6.D.canSet x (by omega), fun w7 s7 => ⟨⟨k + 1, ys.set x (.int .i64 (k : Nat)), rfl, by omega, by rw [List.length_set]; exact hyl, fun i z hi hz => ?_, ?_⟩, by dsimp only; omega⟩⟩
    · rw [List.getElem?_set]
      by_cases e : x = z
      · subst e
        rw [if_pos rfl, if_pos (by omega)]
        have h1 := pos_of RO.nd hx
        have h2 := pos_of RO.nd hz
        rw [← h1, ← h2]
      · rw [if_neg e]
        have : i ≠ k := by rintro rfl; rw [hx] at hz; injection hz with hz; exact e hz
        exact hys i z (by omega) hz
    · rw [Int.toNat_natCast, add_mk, Nat.zero_add] at s7
      exact N6.setD hne hbd s7
  have hkr : k = rows.length := by omega
  subst hkr
  have hdl : ∀ x, Rc c x → ys[x]? = some (.int .i64 (pos rows x : Nat)) := fun x hx => by
    have h1 := pos_get ((RO.mem x).2 hx)
    exact hys _ x (List.getElem?_eq_some_iff.1 h1).1 h1
  have hR : ∀ x, Rc c x → x < c.length := fun x hx => RO.lt x ((RO.mem x).2 hx)
  have hpl : ∀ x, Rc c x → pos rows x < rows.length := fun x hx => (List.getElem?_eq_some_iff.1 (pos_get ((RO.mem x).2 hx))).1
  have P0 : NearP w g bn bf br bo bd c rb rows ys ((rows.map (hi c (pos rows) fun _ => none)).sum + 1) true w6 := ⟨_, N6, inv_none.1, fun _ => ⟨inv_none.2, rfl⟩, fun h => (by cases h)⟩
  refine ⟨fun b w' => ∃ m, NearP w g bn bf br bo bd c rb rows ys m b w', fun b w' => least fun m => NearP w g bn bf br bo bd c rb rows ys m b w', ⟨_, P0⟩, ?_⟩
  rintro _ b w7 hJ
  have hP := least_spec hJ
  obtain ⟨m0, em0⟩ : ∃ m0, m0 = (least fun m => NearP w g bn bf br bo bd c rb rows ys m b w7) := ⟨_, rfl⟩
  rw [← em0] at hP
  obtain ⟨ov, N7, I7, ht, hf⟩ := hP
  refine ⟨fun hb => ?_, fun hb => ?_⟩
  rotate_left
  · obtain ⟨Pm, F, _⟩ := hf hb
    have hc : ∀ x, Rc c x → c ≠ [] := fun x hx => by rintro rfl; exact absurd (hR x hx) (Nat.not_lt_zero _)
    refine ⟨_, ov, pos rows, bo, bd, rfl, ⟨I7, fun x hx d => nearest_dom I7 (RO.ord (hc x hx)) Pm hpl F hx, fun x hx => Pm.pr x hx (hpl x hx)⟩, ⟨N7.hd, G.nx.upd N7.x nbn noI, G.fr.upd N7.x nbf noI, G.lo⟩, N7.R, N7.O, N7.x.mono fun k hk h e => ?_⟩
    rcases e with e | e
    · exact h e
    · omega
  obtain ⟨In7, hm0⟩ := ht hb
  -- a pass
  refine ⟨fun b1 n w' => ∃ (i : Nat) (ov' : Nat → Option Nat), n = (i : Nat) ∧ i ≤ rows.length ∧ NS w w' g bn bf br bo bd c rb (ovV c.length ov') ys ∧ Inv (Eg c) (Rc c) (pos rows) ov' ∧ InP (Eg c) (Rc c) (pos rows) i ov' ∧
      (b1 = false → ov' = ov ∧ ∀ x, Rc c x → x ≠ 0 → pos rows x < i → ∃ y, ov x = some y ∧ Nearest (Eg c) (Rc c) ov x y) ∧
      (b1 = true → (rows.map (hi c (pos rows) ov')).sum < (rows.map (hi c (pos rows) ov)).sum) ∧ (∀ y, hi c (pos rows) ov' y ≤ hi c (pos rows) ov y), fun _ n _ => (rows.length - n).toNat,
    ⟨0, ov, rfl, Nat.zero_le _, N7, I7, In7, fun _ => ⟨rfl, fun x _ _ h => absurd h (Nat.not_lt_zero _)⟩, fun h => (by cases h), fun _ => Nat.le_refl _⟩, ?_⟩
  rintro _ b1 n w8 ⟨i, ov', rfl, hi', N8, I8, In8, hF, hT, hle⟩
  have ei : IntKind.i64.wrap ((i : Int) + 1) = ((i + 1 : Nat) : Int) := by rw [wrap_i64 (by omega) (by omega)]; omega
  rw [ei]
  refine ⟨fun hlt => ?_, fun hge => ?_⟩
  rotate_left
  · have hir : i = rows.length := by omega
    subst hir
    have P8 : ∃ m1, m1 < m0 ∧ NearP w g bn bf br bo bd c rb rows ys m1 b1 w8 := by
      cases b1 with
      | false =>
        obtain ⟨rfl, hF'⟩ := hF rfl
        exact ⟨0, by omega, ov', N8, I8, fun h => (by cases h), fun _ => ⟨In8, fun x hx h0 => hF' x hx h0 (hpl x hx), rfl⟩⟩
      | true =>
        have := hT rfl
        exact ⟨(rows.map (hi c (pos rows) ov')).sum + 1, by omega, ov', N8, I8, fun _ => ⟨In8.again I8 hpl, rfl⟩, fun h => (by cases h)⟩
    obtain ⟨m1, hlt1, P8⟩ := P8
    refine ⟨⟨m1, P8⟩, Nat.lt_of_le_of_lt (least_le P8) ?_⟩
    dsimp only
    rw [← em0]; exact hlt1
  obtain ⟨p, x, hp, hx, hcx⟩ := rget w8 N8.x i (by omega)
  have hxm := List.mem_of_getElem? hx
  have hxR := (RO.mem x).1 hxm
  have hxc := RO.lt x hxm
  have hpx := pos_of RO.nd hx
  have hcn : c ≠ [] := by rintro rfl; exact absurd hxc (Nat.not_lt_zero _)
  have OO := RO.ord hcn
  refine ⟨by omega, hlt, p, hp, _, by rw [Int.toNat_natCast]; exact hcx, fun hx0 => ?_, fun hx0 => ?_⟩
  · have hx0' : x = 0 := by omega
    subst hx0'
    have hi0 : i = 0 := by rw [← hpx]; exact OO.o0
    subst hi0
    exact ⟨⟨1, ov', rfl, by omega, N8, I8, In8.skip I8 OO, fun h => ⟨(hF h).1, fun z hz h0 hl => absurd (OO.inj z 0 hz OO.r0 (by rw [OO.o0]; omega)) h0⟩, hT, hle⟩, by dsimp only; omega⟩
  have hx0' : x ≠ 0 := by omega
  obtain ⟨sf, hsf, of_⟩ := (G.fr.upd N8.x nbf noI).get hxc
  have hsfn := of_.rd.leni
  have hcf : (castL (frT c x)).length = (frT c x).length := by unfold castL; rw [List.length_map]
  have hfl : (frT c x).length ≤ c.length := by
    have := List.length_filter_le (fun i => decide (x ∈ nxT c i)) (List.range c.length)
    rw [List.length_range] at this; exact this
  have mem_fr : ∀ f, f ∈ frT c x ↔ f < c.length ∧ Eg c f x := fun f => by unfold frT Eg; simp
  refine ⟨⟨some ⟨bf, 0, none⟩, c.length, c.length⟩, N8.hd.cell 1, by omega, by dsimp only; omega, _, rfl, sf, by rw [Int.toNat_natCast, add_mk, Nat.zero_add]; exact hsf, ?_⟩
  refine ⟨fun n2 n3 w' => ∃ (k : Nat) (a : Option Nat), n2 = aI a ∧ n3 = (k : Nat) ∧ k ≤ (frT c x).length ∧ Ext w8 w' ∧ (∀ cc, a = some cc → Rc c cc ∧ Pd ov' cc ∧ ∀ v, Ch ov' cc v ↔ ∀ f ∈ (frT c x).take k, Rc c f → Pd ov' f → Ch ov' f v) ∧ (a = none → ∀ f ∈ (frT c x).take k, Rc c f → ¬ Pd ov' f), fun _ n3 _ => ((frT c x).length - n3).toNat,
    ⟨0, none, rfl, rfl, Nat.zero_le _, Ext.refl _, fun cc h => (by cases h), fun _ f h => by simp at h⟩, ?_⟩
  rintro _ n2 n3 w9 ⟨k, a, rfl, rfl, hk9, x9, ha, hnone⟩
  have ek : IntKind.i64.wrap ((k : Int) + 1) = ((k + 1 : Nat) : Int) := by rw [wrap_i64 (by omega) (by omega)]; omega
  rw [ek]
  have N9 := N8.ext x9
  have of9 := of_.ext x9
  refine ⟨fun hlt9 => ?_, fun hge9 => ?_⟩
  · obtain ⟨pf, hpf, hcpf⟩ := of9.rd.2 (by omega)
    obtain ⟨f, hf9⟩ : ∃ f, (frT c x)[k]? = some f := ⟨_, List.getElem?_eq_getElem (by omega)⟩
    have hfc := hcpf k (.int .i64 (f : Nat)) (by unfold iv castL; rw [List.getElem?_map, List.getElem?_map, hf9]; rfl)
    have hfm := (mem_fr f).1 (List.mem_of_getElem? hf9)
    have hrbl := RO.rbl
    obtain ⟨bb, hbb⟩ : ∃ b, rb[f]? = some b := ⟨_, List.getElem?_eq_getElem (by omega)⟩
    have hskip : (Rc c f → ¬ Pd ov' f) → (∃ (k' : Nat) (a' : Option Nat), aI a = aI a' ∧ ((k + 1 : Nat) : Int) = (k' : Nat) ∧ k' ≤ (frT c x).length ∧ Ext w8 w9 ∧ (∀ cc, a' = some cc → Rc c cc ∧ Pd ov' cc ∧ ∀ v, Ch ov' cc v ↔ ∀ f ∈ (frT c x).take k', Rc c f → Pd ov' f → Ch ov' f v) ∧ (a' = none → ∀ f ∈ (frT c x).take k', Rc c f → ¬ Pd ov' f)) ∧
        (((frT c x).length : Int) - ((k + 1 : Nat) : Int)).toNat < (((frT c x).length : Int) - (k : Nat)).toNat := fun hno => by
      refine ⟨⟨k + 1, a, rfl, rfl, by omega, x9, fun cc hcc => ?_, fun hn f' hf' hr' => ?_⟩, by omega⟩
      · obtain ⟨h1, h2, h3⟩ := ha cc hcc
        refine ⟨h1, h2, fun v => (h3 v).trans ⟨fun h f' hf' hr' hp' => ?_, fun h f' hf' hr' hp' => h f' (by rw [take_snoc hf9]; exact List.mem_append_left _ hf') hr' hp'⟩⟩
        rw [take_snoc hf9, List.mem_append, List.mem_singleton] at hf'
        rcases hf' with hf' | rfl
        · exact h f' hf' hr' hp'
        · exact absurd hp' (hno hr')
      · rw [take_snoc hf9, List.mem_append, List.mem_singleton] at hf'
        rcases hf' with hf' | rfl
        · exact hnone hn f' hf' hr'
        · exact hno hr'
    refine ⟨by omega, hlt9, pf, hpf, _, by rw [Int.toNat_natCast]; exact hfc, ⟨some ⟨br, 0, none⟩, c.length, c.length⟩, N9.hd.cell 2, by omega, by dsimp only; omega, _, rfl, bb, by rw [Int.toNat_natCast, add_mk, Nat.zero_add, N9.R.cell]; unfold bbv; rw [List.getElem?_map, hbb]; rfl, fun hbt => ?_, fun hbf => hskip fun hr' => ?_⟩
    rotate_left
    · have := (RO.rb f hfm.1).2 ((RO.mem f).2 hr')
      rw [hbb, hbf] at this; cases this
    have hfR : Rc c f := (RO.mem f).1 ((RO.rb f hfm.1).1 (by rw [hbb, hbt]))
    have hmeet : Pd ov' f → CallW Try.prog 41 #[.pointer (some ⟨g, 0, none⟩), .int .i64 (aI a), .int .i64 (f : Nat)] w9 fun e w_2 => ∃ n : Int, e = .returned (.int .i64 n) ∧ (∃ (k' : Nat) (a' : Option Nat), n = aI a' ∧ ((k + 1 : Nat) : Int) = (k' : Nat) ∧ k' ≤ (frT c x).length ∧ Ext w8 w_2 ∧ (∀ cc, a' = some cc → Rc c cc ∧ Pd ov' cc ∧ ∀ v, Ch ov' cc v ↔ ∀ f ∈ (frT c x).take k', Rc c f → Pd ov' f → Ch ov' f v) ∧ (a' = none → ∀ f ∈ (frT c x).take k', Rc c f → ¬ Pd ov' f)) ∧
        (((frT c x).length : Int) - ((k + 1 : Nat) : Int)).toNat < (((frT c x).length : Int) - (k : Nat)).toNat := fun hpf' => by
      refine ⟨(meet_spec N9.hd N9.O N9.D hdl I8 OO hR hm (a := a) (fun z hz => ⟨(ha z hz).1, (ha z hz).2.1⟩) hfR hpf').mono ?_⟩
      rintro e w10 ⟨cc, rfl, rc, pc, hv, x10⟩
      refine ⟨_, rfl, ⟨k + 1, some cc, rfl, rfl, by omega, x9.trans x10, fun cc' hcc => ?_, fun h => (by cases h)⟩, by omega⟩
      injection hcc with hcc; subst hcc
      refine ⟨rc, pc, fun v => (hv v).trans ⟨fun ⟨h1, h2⟩ f' hf' hr' hp' => ?_, fun h => ⟨fun z hz => ((ha z hz).2.2 v).2 fun f' hf' hr' hp' => h f' (by rw [take_snoc hf9]; exact List.mem_append_left _ hf') hr' hp', h f (by rw [take_snoc hf9]; simp) hfR hpf'⟩⟩⟩
      rw [take_snoc hf9, List.mem_append, List.mem_singleton] at hf'
      rcases hf' with hf' | rfl
      · cases a with
        | none => exact absurd hp' (hnone rfl f' hf' hr')
        | some z => exact ((ha z rfl).2.2 v).1 (h1 z rfl) f' hf' hr' hp'
      · exact h2
    refine ⟨fun hf0 => ⟨⟨some ⟨bo, 0, none⟩, c.length, c.length⟩, N9.hd.cell 3, by omega, by dsimp only; omega, _, rfl, _, by rw [Int.toNat_natCast, add_mk, Nat.zero_add, N9.O.cell, ovV_get hfm.1], fun hneg => hskip fun _ hpd => ?_, fun hpos => hmeet ?_⟩, fun hf0 => hmeet (.inl (by omega))⟩
    · obtain ⟨z, hz⟩ := hpd.some (by omega)
      rw [ovI_some hz] at hneg
      omega
    · refine .inr ?_
      cases hz : ov' f with
      | none => exact absurd (show ovI ov' f < 0 by unfold ovI; rw [hz]; decide) hpos
      | some z => rfl
  have hkf : k = (frT c x).length := by omega
  subst hkf
  rw [List.take_length] at ha hnone
  -- there is one that has been met
  obtain ⟨f0, ef0, rf0, lf0⟩ := OO.fwd x hxR hx0'
  have pf0 := In8.pr f0 rf0 (by omega)
  have hfm0 : f0 ∈ frT c x := (mem_fr f0).2 ⟨hR f0 rf0, ef0⟩
  cases a with
  | none => exact absurd pf0 (hnone rfl f0 hfm0 rf0)
  | some cc =>
  obtain ⟨rc, pc, hv⟩ := ha cc rfl
  have hN : Nearest (Eg c) (Rc c) ov' x cc := fun v => (hv v).trans ⟨fun h f e r pp => h f ((mem_fr f).2 ⟨hR f r, e⟩) r pp, fun h f hf r pp => h f ((mem_fr f).1 hf).2 r pp⟩
  obtain ⟨I10, In10⟩ := set_inv I8 OO In8 hxR hx0' hpx rc pc hN
  have hlo := near_lt I8 OO In8 hxR hx0' hpx rc pc hN
  have hhi : ∀ y, hi c (pos rows) (setO ov' x cc) y ≤ hi c (pos rows) ov' y := fun y => by
    unfold hi setO
    by_cases e : y = x
    · subst e
      rw [if_pos rfl]
      cases hz : ov' y with
      | none => dsimp only; have := hpl cc rc; omega
      | some z =>
        dsimp only
        by_cases e2 : z = cc
        · subst e2; exact Nat.le_refl _
        · exact Nat.le_of_lt (set_less I8 OO In8 hxR hx0' hpx rc pc hN hz e2)
    · rw [if_neg e]; exact Nat.le_refl _
  rw [show aI (some cc) = (cc : Int) from rfl]
  refine ⟨⟨some ⟨bo, 0, none⟩, c.length, c.length⟩, N9.hd.cell 3, by omega, by dsimp only; omega, _, rfl, _, by rw [Int.toNat_natCast, add_mk, Nat.zero_add, N9.O.cell, ovV_get hxc], fun hne9 => ?_, fun he9 => ?_⟩
  · refine ⟨⟨some ⟨bo, 0, none⟩, c.length, c.length⟩, N9.hd.cell 3, by omega, by dsimp only; omega, _, rfl, by rw [Int.toNat_natCast, add_mk, Nat.zero_add]; exact N9.O.canSet x (by rw [ovV_length]; exact hxc), fun w10 s10 => ?_⟩
    rw [Int.toNat_natCast, add_mk, Nat.zero_add] at s10
    have N10 := N9.setO hne hbo s10
    rw [ovV_set] at N10
    have hsx : hi c (pos rows) (setO ov' x cc) x < hi c (pos rows) ov' x := by
      unfold hi setO
      rw [if_pos rfl]
      cases hz : ov' x with
      | none => dsimp only; have := hpl cc rc; omega
      | some z =>
        dsimp only
        exact set_less I8 OO In8 hxR hx0' hpx rc pc hN hz (by rintro rfl; exact hne9 (ovI_some hz))
    have hs2 := sum_less hxm hhi hsx
    have hsle : (rows.map (hi c (pos rows) ov')).sum ≤ (rows.map (hi c (pos rows) ov)).sum := by
      cases b1 with
      | true => exact Nat.le_of_lt (hT rfl)
      | false => rw [(hF rfl).1]; exact Nat.le_refl _
    exact ⟨⟨i + 1, setO ov' x cc, rfl, by omega, N10, I10, In10, fun h => (by cases h), fun _ => by omega, fun y => Nat.le_trans (hhi y) (hle y)⟩, by dsimp only; omega⟩
  · have hz : ov' x = some cc := by
      cases hz : ov' x with
      | none => unfold ovI at he9; rw [hz] at he9; exact absurd he9 (by dsimp only; omega)
      | some z => rw [ovI_some hz] at he9; congr 1; omega
    have hsame : setO ov' x cc = ov' := by
      funext y
      unfold setO
      by_cases e : y = x
      · subst e; rw [if_pos rfl, hz]
      · rw [if_neg e]
    rw [hsame] at I10 In10
    refine ⟨⟨i + 1, ov', rfl, by omega, N9, I10, In10, fun h => ⟨(hF h).1, fun z hzR h0 hl => ?_⟩, hT, hle⟩, by dsimp only; omega⟩
    obtain ⟨rfl, hF'⟩ := hF h
    rcases Nat.lt_or_ge (pos rows z) i with h1 | h1
    · exact hF' z hzR h0 h1
    · have : z = x := OO.inj z x hzR hxR (by omega)
      subst this
      exact ⟨cc, hz, hN⟩
end
end Go.Proofs.Ytilaeefmfiihlaa.V
