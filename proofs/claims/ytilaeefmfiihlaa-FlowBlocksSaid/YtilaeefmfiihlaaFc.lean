/-
  Law FlowCovers.
-/
import Derived.Test.YtilaeefmfiihlaaFn
import Derived.Test.YtilaeefmfiihlaaFlp
namespace Go.Proofs.Ytilaeefmfiihlaa.V
open Go Go.RowKit
set_option linter.unusedVariables false
set_option linter.unusedSimpArgs false
set_option linter.unusedSectionVars false
set_option maxRecDepth 100000

theorem ins_snoc {l : List Bk} {i : Nat} {b : Bk} (h : l[i]? = some b) (k : Nat) : ins (l.take (i + 1)) k = ins (l.take i) k + if b.1 ≤ k ∧ k < b.2.1 then 1 else 0 := by
  unfold ins
  rw [take_snoc h, List.countP_append, List.countP_cons, List.countP_nil]
  simp only [decide_eq_true_eq, Nat.zero_add]
theorem ins_le (l : List Bk) (k : Nat) : ins l k ≤ l.length := List.countP_le_length
theorem BM.at_ {w : World} {W T : Nat} {s : Sl} {ss : List (Nat × Nat × Sl)} {bl : List Bk} (h : BM w W T s ss bl) {i : Nat} {b : Bk} (hb : bl[i]? = some b) :
    ∃ p q, s.a = some p ∧ ss[i]? = some q ∧ ∀ {w' : World}, Ext w w' → w'.cell? ((p.add (i * 3)).add 0) = some (.int .i64 (b.1 : Nat)) ∧ w'.cell? ((p.add (i * 3)).add 1) = some (.int .i64 (b.2.1 : Nat)) ∧
      w'.cell? ((p.add (i * 3)).add 2) = some (.slice q.2.2.a q.2.2.n q.2.2.c) ∧ Own w' W 3 1 q.2.2 (iv (castL b.2.2)) := by
  have hi := (List.getElem?_eq_some_iff.1 hb).1
  obtain ⟨q, hq⟩ : ∃ q, ss[i]? = some q := ⟨_, List.getElem?_eq_getElem (by rw [h.len]; exact hi)⟩
  obtain ⟨m1, m2, m3⟩ := h.m i q b hq hb
  obtain ⟨g0, g1, g2⟩ := bkV_get hq
  obtain ⟨p, hp, hc⟩ := h.own.rd.2 (by have := h.sn; omega)
  refine ⟨p, q, hp, hq, fun {w'} u => ⟨?_, ?_, ?_, m3.ext u⟩⟩
  · rw [add_add, ← m1]; exact u.cell (hc _ _ g0) id
  · rw [add_add, ← m2]; exact u.cell (hc _ _ g1) id
  · rw [add_add]; exact u.cell (hc _ _ g2) id
/-- counts and marks in memory -/
structure CV (w : World) (W1 W2 : Nat) (c : List Ins) (f : Nat → Nat) (g : Nat → Prop) : Prop where
  n : ∃ L : List Int, Blk w W1 3 (iv L) ∧ L.length = c.length ∧ ∀ k, k < c.length → L[k]? = some ((f k : Nat) : Int)
  m : ∃ m : List Bool, Blk w W2 4 (bbv m) ∧ m.length = c.length + 1 ∧ ∀ x, x ≤ c.length → (m[x]? = some true ↔ g x)
section
variable {w w' : World} {W1 W2 : Nat} {c : List Ins} {f f' : Nat → Nat} {g g' : Nat → Prop} {k x : Nat} {v : Int}
theorem CV.ext (h : CV w W1 W2 c f g) (u : Ext w w') : CV w' W1 W2 c f g := by
  obtain ⟨⟨L, h1, h2⟩, ⟨m, h3, h4⟩⟩ := h; exact ⟨⟨L, h1.ext u, h2⟩, ⟨m, h3.ext u, h4⟩⟩
theorem CV.congr (h : CV w W1 W2 c f g) (e : ∀ k, k < c.length → f k = f' k) (eg : ∀ x, g x ↔ g' x) : CV w W1 W2 c f' g' := by
  obtain ⟨⟨L, h1, h2, h3⟩, ⟨m, h4, h5, h6⟩⟩ := h
  exact ⟨⟨L, h1, h2, fun k hk => by rw [h3 k hk, e k hk]⟩, ⟨m, h4, h5, fun x hx => (h6 x hx).trans (eg x)⟩⟩
theorem CV.getn (h : CV w W1 W2 c f g) (hk : k < c.length) : w.cell? ⟨W1, k, none⟩ = some (.int .i64 ((f k : Nat) : Int)) := by
  obtain ⟨⟨L, h1, h2, h3⟩, _⟩ := h
  rw [h1.cell]; unfold iv; rw [List.getElem?_map, h3 k hk]; rfl
theorem CV.getm (h : CV w W1 W2 c f g) (hx : x ≤ c.length) : ∃ b, w.cell? ⟨W2, x, none⟩ = some (.bool b) ∧ (b = true ↔ g x) := by
  obtain ⟨_, ⟨m, h4, h5, h6⟩⟩ := h
  obtain ⟨b, hb⟩ : ∃ b, m[x]? = some b := ⟨_, List.getElem?_eq_getElem (by omega)⟩
  refine ⟨b, by rw [h4.cell]; unfold bbv; rw [List.getElem?_map, hb]; rfl, ?_⟩
  rw [← h6 x hx, hb]
  simp
theorem CV.cann (h : CV w W1 W2 c f g) (hk : k < c.length) : CanSet w ⟨W1, k, none⟩ 1 := by
  obtain ⟨⟨L, h1, h2, h3⟩, _⟩ := h
  exact h1.canSet _ (by unfold iv; rw [List.length_map]; omega)
theorem CV.canm (h : CV w W1 W2 c f g) (hx : x ≤ c.length) : CanSet w ⟨W2, x, none⟩ 1 := by
  obtain ⟨_, ⟨m, h4, h5, h6⟩⟩ := h
  exact h4.canSet _ (by rw [bbv_length]; omega)
theorem CV.setn (h : CV w W1 W2 c f g) (hk : k < c.length) (hst : SetW w ⟨W1, k, none⟩ [.int .i64 v] w') (ev : v = ((f' k : Nat) : Int)) (e : ∀ y, y ≠ k → f' y = f y) : CV w' W1 W2 c f' g := by
  obtain ⟨⟨L, h1, h2, h3⟩, ⟨m, h4, h5, h6⟩⟩ := h
  refine ⟨⟨L.set k v, ?_, by rw [List.length_set]; exact h2, fun y hy => ?_⟩, ⟨m, h4.upd hst.upd (h4.ne h1 (by decide)), h5, h6⟩⟩
  · have e1 : iv (L.set k v) = (iv L).set k (.int .i64 v) := by unfold iv; rw [List.map_set]
    rw [e1]; exact hst.blk1 h1
  · rw [List.getElem?_set]
    by_cases hh : k = y
    · subst hh; rw [if_pos rfl, if_pos (by omega), ev]
    · rw [if_neg hh, h3 y hy, e y (fun h => hh h.symm)]
theorem CV.setm (h : CV w W1 W2 c f g) (hx : x ≤ c.length) (hst : SetW w ⟨W2, x, none⟩ [.bool true] w') (e : ∀ y, g' y ↔ (y = x ∨ g y)) : CV w' W1 W2 c f g' := by
  obtain ⟨⟨L, h1, h2, h3⟩, ⟨m, h4, h5, h6⟩⟩ := h
  refine ⟨⟨L, h1.upd hst.upd (h1.ne h4 (by decide)), h2, h3⟩, ⟨m.set x true, ?_, by rw [List.length_set]; exact h5, fun y hy => ?_⟩⟩
  · have e1 : bbv (m.set x true) = (bbv m).set x (.bool true) := by unfold bbv; rw [List.map_set]
    rw [e1]; exact hst.blk1 h4
  · rw [e, List.getElem?_set]
    by_cases hh : x = y
    · subst hh; rw [if_pos rfl, if_pos (by omega)]; simp
    · rw [if_neg hh, h6 y hy]
      exact ⟨.inr, fun h => h.elim (fun h => absurd h.symm hh) id⟩
end
set_option maxHeartbeats 2000000 in
theorem flowcovers_walk (w : World) (v0 : Value) (x0 : (Par.one (.sl 24 InsR)).T) (h0 : (Par.one (.sl 24 InsR)).Is w v0 x0) :
    Calls Try.prog 7 #[v0] w fun e w' => e = .returned (.bool true) ∧ Ext w w' := by
  obtain ⟨rfl, hcap, c0, hc⟩ := is_code h0
  obtain ⟨code, ls⟩ := x0
  dsimp only at *
  refine vc_7 code _ _ ?_
  simp only [eq_self, false_or, or_false, true_and, and_true, decide_eq_true_eq, decide_eq_false_iff_not, gd_st, gd_sf, exists_eq_left', exists_eq_left, Option.some.injEq, Sl.eta, Nat.reduceLeDiff, Int.reduceLE, Int.reduceLT, Int.reduceEq, Int.reduceNe, Nat.reduceMul, Nat.reduceAdd, Nat.reduceSub, Int.toNat_natCast, beq_iff_eq, bne_iff_ne, beq_eq_false_iff_ne, bne_eq_false_iff_eq, pick_and, pick_or, Bool.and_eq_true, Bool.or_eq_true, Bool.and_eq_false_iff, Bool.or_eq_false_iff, ne_eq, not_false_eq_true, Bool.not_eq_true', Bool.not_eq_false', reduceCtorEq, Nat.le_refl, Nat.zero_mul, Nat.mul_one, Nat.zero_add, Int.reduceToNat, ones, one, add_mk, Decidable.not_not, cond_true, cond_false, true_implies, false_implies, implies_true, Bool.not_true, Bool.not_false]
  refine ⟨(shown_spec w).mono ?_⟩
  rintro e w1 ⟨rfl, x1⟩
  refine ⟨_, rfl, ⟨(cut_spec (hc.ext x1) hcap).mono ?_⟩⟩
  rintro e w2 ⟨s, rfl, hs, hscap, hsa, rfl⟩
  obtain ⟨c, rfl⟩ : ∃ c, c = c0.take 40 := ⟨_, rfl⟩
  have hm : (c0.take 40).length ≤ 40 := by rw [List.length_take]; omega
  generalize c0.take 40 = c at *
  have hsn := hs.lenc
  refine ⟨s, rfl, ⟨(new_spec hs (by omega)).mono ?_⟩⟩
  rintro e w3 ⟨g, rfl, G3, x3⟩
  have x03 := x1.trans x3
  refine ⟨_, rfl, fun _ => ⟨fun h => (by cases h), fun _ => ⟨(reached_spec G3 (by omega)).mono ?_⟩⟩, fun h => (by cases h)⟩
  rintro e w4 ⟨s4, rfl, o4, x4⟩
  have h4n : c.length = s4.n := by simpa using o4.len1
  refine ⟨s4, rfl, ⟨(blocks_spec (G3.ext x4) (by omega)).mono ?_⟩⟩
  rintro e w5 ⟨s5, ss, rfl, M5, x5⟩
  have x05 := (x03.trans x4).trans x5
  have PB := blk_ok c c.length
  have hll := blk_len_le c c.length
  obtain ⟨l, hl⟩ : ∃ l, l = blk c c.length := ⟨_, rfl⟩
  rw [← hl] at M5 PB hll
  have h5n := M5.sn
  have e1 : IntKind.i64.wrap ((s.n : Int) + 1) = ((c.length + 1 : Nat) : Int) := by rw [wrap_i64 (by omega) (by omega)]; omega
  refine ⟨s5, rfl, ⟨by omega, by omega, by omega, by omega⟩, fun w6 n6 => ?_⟩
  rw [e1]
  simp only [Int.toNat_natCast]
  refine ⟨⟨by omega, by omega, by omega, by omega⟩, fun w7 n7 => ⟨fun hne => absurd (by omega) hne, fun _ => ?_⟩⟩
  have z6 := n6.size
  have x57 : Ext w5 w7 := n6.ext.trans n7.ext
  have C7 : CV w7 w5.heap.size w6.heap.size c (ins (l.take 0)) (fun x => ∃ b ∈ l.take 0, b.1 = x) := by
    have k6 := (Blk.new n6).ext n7.ext
    have k7 := Blk.new n7
    rw [zrow_one] at k6 k7
    refine ⟨⟨List.replicate s.n 0, by unfold iv; rw [List.map_replicate]; exact k6, by rw [List.length_replicate]; exact hsn, fun k hk => ?_⟩, ⟨List.replicate (c.length + 1) false, by unfold bbv; rw [List.map_replicate]; exact k7, by rw [List.length_replicate], fun x hx => ?_⟩⟩
    · rw [List.getElem?_replicate, if_pos (by omega)]; rfl
    · rw [List.getElem?_replicate, if_pos (by omega)]; simp
  have at_ : ∀ {i : Nat} {b : Bk}, l[i]? = some b → _ := fun {i b} hb => M5.at_ hb
  have fr1 : ∀ {w' w'' : World} {o : Nat} {l : List Value}, Ext w5 w' → SetW w' ⟨w5.heap.size, o, none⟩ l w'' → Ext w5 w'' := fun {w' w'' o l} x st => x.fresh st.upd (by rintro k rfl; exact Nat.le_refl _)
  have fr2 : ∀ {w' w'' : World} {o : Nat} {l : List Value}, Ext w5 w' → SetW w' ⟨w6.heap.size, o, none⟩ l w'' → Ext w5 w'' := fun {w' w'' o l} x st => x.fresh st.upd (by rintro k rfl; dsimp only; omega)
  refine ⟨fun n w' => ∃ i : Nat, n = (i : Nat) ∧ i ≤ l.length ∧ CV w' w5.heap.size w6.heap.size c (ins (l.take i)) (fun x => ∃ b ∈ l.take i, b.1 = x) ∧ Ext w5 w', fun n _ => (l.length - n).toNat, ⟨0, rfl, Nat.zero_le _, C7, x57⟩, ?_⟩
  rintro _ n w8 ⟨i, rfl, hi, C8, x8⟩
  have ei : IntKind.i64.wrap ((i : Int) + 1) = ((i + 1 : Nat) : Int) := by rw [wrap_i64 (by omega) (by omega)]; omega
  rw [ei]
  simp only [Int.toNat_natCast]
  refine ⟨fun hlt => ?_, fun hge => ?_⟩
  · obtain ⟨b, hb⟩ : ∃ b, l[i]? = some b := ⟨_, List.getElem?_eq_getElem (by omega)⟩
    obtain ⟨p, q, hp, hq, cells⟩ := at_ hb
    obtain ⟨E, hE⟩ := PB.b b (List.mem_of_getElem? hb)
    have hlt1 := E.lt
    have hle1 := E.le
    obtain ⟨g0, g1, g2, _⟩ := cells x8
    refine ⟨by omega, by omega, p, hp, _, g0, fun _ => ⟨by omega, by omega, p, hp, _, g1, by omega, by omega, p, hp, _, g0, fun _ => ⟨by omega, by omega, p, hp, _, g1, fun w9 q9 => ⟨fun hh => absurd hh (by omega), fun _ => ?_⟩⟩, fun hh => absurd hh (by omega)⟩, fun hh => absurd hh (by omega)⟩
    have x9 := x8.trans q9.ext
    have C9 := C8.ext q9.ext
    refine ⟨by omega, by omega, p, hp, _, (cells x9).1, by omega, by omega, by rw [Int.toNat_natCast]; exact C9.canm (by omega), fun w10 s10 => ?_⟩
    rw [Int.toNat_natCast] at s10
    have x10 := fr2 x9 s10
    have C10 := C9.setm (g' := fun x => ∃ b ∈ l.take (i + 1), b.1 = x) (by omega) s10 fun y => by
      rw [take_snoc hb]
      constructor
      · rintro ⟨b', hb', rfl⟩
        rw [List.mem_append, List.mem_singleton] at hb'
        rcases hb' with h | rfl
        · exact .inr ⟨b', h, rfl⟩
        · exact .inl rfl
      · rintro (rfl | ⟨b', hb', rfl⟩)
        · exact ⟨b, by simp, rfl⟩
        · exact ⟨b', List.mem_append_left _ hb', rfl⟩
    refine ⟨by omega, by omega, p, hp, _, (cells x10).1, ?_⟩
    refine ⟨fun n w' => ∃ k : Nat, n = (k : Nat) ∧ b.1 ≤ k ∧ k ≤ b.2.1 ∧ CV w' w5.heap.size w6.heap.size c (fun y => ins (l.take i) y + if b.1 ≤ y ∧ y < k then 1 else 0) (fun x => ∃ b ∈ l.take (i + 1), b.1 = x) ∧ Ext w5 w', fun n _ => (b.2.1 - n).toNat,
      ⟨b.1, rfl, Nat.le_refl _, by omega, C10.congr (fun k hk => by rw [if_neg (by omega)]; rfl) (fun _ => Iff.rfl), x10⟩, ?_⟩
    rintro _ n w11 ⟨k, rfl, hk1, hk2, C11, x11⟩
    have ek : IntKind.i64.wrap ((k : Int) + 1) = ((k + 1 : Nat) : Int) := by rw [wrap_i64 (by omega) (by omega)]; omega
    rw [ek]
    simp only [Int.toNat_natCast]
    refine ⟨by omega, by omega, p, hp, _, (cells x11).2.1, fun hlt11 => ?_, fun hge11 => ?_⟩
    · have hkc : k < c.length := by omega
      have hin := ins_le (l.take i) k
      rw [List.length_take] at hin
      have hf : ins (l.take i) k + (if b.1 ≤ k ∧ k < k then 1 else 0) = ins (l.take i) k := by rw [if_neg (by omega)]; rfl
      have hg := C11.getn hkc
      rw [hf] at hg
      refine ⟨by omega, by omega, _, hg, by omega, by omega, C11.cann hkc, fun w12 s12 => ⟨(next_spec (hs.ext ((x3.trans x4).trans (x5.trans (fr1 x11 s12)))) (by omega) (k : Nat)).mono ?_⟩⟩
      rw [wrap_i64 (by omega) (by omega)] at s12
      have C12 := C11.setn (f' := fun y => ins (l.take i) y + if b.1 ≤ y ∧ y < k + 1 then 1 else 0) hkc s12 (by rw [if_pos (by omega)]; omega) fun y hy => by
        by_cases h : b.1 ≤ y ∧ y < k
        · rw [if_pos h, if_pos (by omega)]
        · rw [if_neg h, if_neg (by omega)]
      have x12 := fr1 x11 s12
      rintro e w13 ⟨s13, rfl, o13, x13⟩
      rw [nextT_nat hkc] at o13
      have x13' := x12.trans x13
      refine ⟨s13, rfl, by omega, by omega, p, hp, _, (cells x13').2.1, fun hlt2 => ?_, fun hge2 => ⟨⟨k + 1, rfl, by omega, by omega, C12.ext x13, x13'⟩, by omega⟩⟩
      rw [stp_next (E.s (k + 1) (by omega) (by omega))] at o13
      have h13 : 1 = s13.n := o13.rd.leni
      obtain ⟨p', hp', hcp'⟩ := o13.rd.2 (by omega)
      exact ⟨fun _ => ⟨by omega, p', hp', _, hcp' 0 _ rfl, fun hne => absurd rfl hne, fun _ => ⟨⟨k + 1, rfl, by omega, by omega, C12.ext x13, x13'⟩, by omega⟩⟩, fun hne => absurd (by omega) hne⟩
    · have : k = b.2.1 := by omega
      subst this
      refine ⟨⟨i + 1, rfl, by omega, C11.congr (fun k hk => (ins_snoc hb k).symm) (fun _ => Iff.rfl), x11⟩, by omega⟩
  -- each in one
  have hil : i = l.length := by omega
  rw [hil, List.take_length] at C8
  have rdR : ∀ {w' : World}, Ext w5 w' → ∀ {k : Nat}, k < c.length → ∃ p, s4.a = some p ∧ w'.cell? (p.add k) = some (.bool (rB c k)) := fun {w'} u {k} hk => by
    obtain ⟨p, hp, hcc⟩ := (o4.ext (x5.trans u)).rd.2 (by omega)
    exact ⟨p, hp, hcc k _ (by unfold bbv; rw [List.getElem?_map, rcL_get hk]; rfl)⟩
  have marked : ∀ {x : Nat}, Lead c x → ∃ b ∈ l, b.1 = x := fun {x} hx => by
    have hm : x ∈ l.map (fun b => b.1) := by rw [PB.f]; exact mem_lds.2 ⟨Rc_lt hx.1, hx⟩
    obtain ⟨b, hb, e⟩ := List.mem_map.1 hm
    exact ⟨b, hb, e⟩
  refine ⟨fun n w' => ∃ k : Nat, n = (k : Nat) ∧ k ≤ c.length ∧ Ext w8 w', fun n _ => (c.length - n).toNat, ⟨0, rfl, Nat.zero_le _, Ext.refl _⟩, ?_⟩
  rintro _ n w9 ⟨k, rfl, hk, x9⟩
  have ek : IntKind.i64.wrap ((k : Int) + 1) = ((k + 1 : Nat) : Int) := by rw [wrap_i64 (by omega) (by omega)]; omega
  rw [ek]
  simp only [Int.toNat_natCast]
  refine ⟨fun hlt9 => ?_, fun hge9 => ?_⟩
  · have hkc : k < c.length := by omega
    obtain ⟨p, hp, hcr⟩ := rdR (x8.trans x9) hkc
    have hg := (C8.ext x9).getn hkc
    have hin : ins l k = if rB c k then 1 else 0 := by
      cases hr : rB c k with
      | true => rw [PB.covers (rB_iff.1 hr)]; rfl
      | false => rw [PB.outside (fun h => by rw [rB_iff.2 h] at hr; cases hr)]; rfl
    have heq : rB c k = (((ins l k : Nat) : Int) == 1) := by rw [hin]; cases rB c k <;> rfl
    have hle : ins l k ≤ 1 := by rw [hin]; split <;> omega
    refine ⟨by omega, by omega, p, hp, _, hcr, by omega, by omega, _, hg, fun _ => ⟨by omega, by omega, _, hg, fun _ => ⟨fun hz => ?_, fun _ w10 q10 => ⟨⟨k + 1, rfl, by omega, x9.trans q10.ext⟩, by omega⟩⟩, fun hh => absurd hh (by omega)⟩, fun hne => absurd heq hne⟩
    have hk0 : k = 0 := by omega
    subst hk0
    obtain ⟨b, hb, hbt⟩ := (C8.ext x9).getm (x := 0) (Nat.zero_le _)
    have hb1 : b = true := hbt.2 (marked ⟨Rc_zero (by rintro rfl; exact absurd hkc (Nat.not_lt_zero _)), .inl rfl⟩)
    subst hb1
    exact ⟨by omega, true, hb, fun w10 q10 => ⟨fun h => (by cases h), fun _ => ⟨⟨0 + 1, rfl, by omega, x9.trans q10.ext⟩, by omega⟩⟩⟩
  refine ⟨fun n w' => ∃ i : Nat, n = (i : Nat) ∧ i ≤ l.length ∧ Ext w8 w', fun n _ => (l.length - n).toNat, ⟨0, rfl, Nat.zero_le _, x9⟩, ?_⟩
  rintro _ n w10 ⟨j, rfl, hj, x10⟩
  have ej : IntKind.i64.wrap ((j : Int) + 1) = ((j + 1 : Nat) : Int) := by rw [wrap_i64 (by omega) (by omega)]; omega
  rw [ej]
  simp only [Int.toNat_natCast]
  refine ⟨fun hlt10 => ?_, fun _ => (x05.trans x8).trans x10⟩
  obtain ⟨b, hb⟩ : ∃ b, l[j]? = some b := ⟨_, List.getElem?_eq_getElem (by omega)⟩
  obtain ⟨p, q, hp, hq, cells⟩ := at_ hb
  obtain ⟨E, hE⟩ := PB.b b (List.mem_of_getElem? hb)
  have h2 : b.2.2.length ≤ 2 := by rw [hE]; exact nxT_le2 _ _
  refine ⟨fun n w' => ∃ i : Nat, n = (i : Nat) ∧ i ≤ b.2.2.length ∧ Ext w8 w', fun n _ => (b.2.2.length - n).toNat, ⟨0, rfl, Nat.zero_le _, x10⟩, ?_⟩
  rintro _ n w11 ⟨t, rfl, ht, x11⟩
  have et : IntKind.i64.wrap ((t : Int) + 1) = ((t + 1 : Nat) : Int) := by rw [wrap_i64 (by omega) (by omega)]; omega
  rw [et]
  obtain ⟨g0, g1, g2, oq⟩ := cells (x8.trans x11)
  have hqn := oq.rd.leni
  rw [castL_len] at hqn
  simp only [Int.toNat_natCast]
  refine ⟨by omega, by omega, p, hp, q.2.2, g2, fun hlt11 => ?_, fun _ => ⟨⟨j + 1, rfl, by omega, x11⟩, by omega⟩⟩
  obtain ⟨pq, hpq, hcq⟩ := oq.rd.2 (by omega)
  obtain ⟨y, hy⟩ : ∃ y, b.2.2[t]? = some y := ⟨_, List.getElem?_eq_getElem (by omega)⟩
  have hyc := hcq t (.int .i64 (y : Nat)) (by unfold iv castL; rw [List.getElem?_map, List.getElem?_map, hy]; rfl)
  have hyL := PB.behind (List.mem_of_getElem? hb) (List.mem_of_getElem? hy)
  have hyn := Rc_lt hyL.1
  obtain ⟨bb, hbb, hbt⟩ := (C8.ext x11).getm (x := y) (by omega)
  have hb1 : bb = true := hbt.2 (marked hyL)
  subst hb1
  exact ⟨by omega, by omega, p, hp, q.2.2, g2, by omega, by omega, pq, hpq, _, hyc, fun _ => ⟨fun _ => ⟨by omega, by omega, true, by rw [Int.toNat_natCast]; exact hbb, fun h => (by cases h), fun _ => ⟨⟨t + 1, rfl, by omega, x11⟩, by omega⟩⟩, fun hh => absurd hh (by omega)⟩, fun hh => absurd hh (by omega)⟩
end Go.Proofs.Ytilaeefmfiihlaa.V
