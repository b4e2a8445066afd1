/-
  The document's From, without, Reached, Over.
-/
import Derived.Test.YtilaeefmfiihlaaFlb
namespace Go.Proofs.Ytilaeefmfiihlaa.V
open Go Go.RowKit
set_option linter.unusedVariables false
set_option linter.unusedSimpArgs false
set_option maxRecDepth 100000

open Classical in
noncomputable def avB (c : List Ins) (d x : Nat) : Bool := decide (Av (Eg c) d x)
noncomputable def avL (c : List Ins) (d : Nat) : List Bool := (List.range c.length).map (avB c d)
@[simp] theorem avL_length (c : List Ins) (d : Nat) : (avL c d).length = c.length := by simp [avL]
theorem avL_get {c : List Ins} {d x : Nat} (h : x < c.length) : (avL c d)[x]? = some (avB c d x) := by unfold avL; rw [List.getElem?_map, List.getElem?_range h]; rfl
theorem avB_iff {c : List Ins} {d x : Nat} : avB c d x = true ↔ Av (Eg c) d x := by unfold avB; simp
theorem avL_rc (c : List Ins) : avL c c.length = rcL c := rfl
theorem frT_mem {c : List Ins} {f x : Nat} : f ∈ frT c x ↔ f < c.length ∧ x ∈ nxT c f := by unfold frT; simp
theorem no_av0' {E : Nat → Nat → Prop} {x : Nat} (h : Av E 0 x) : False := by
  induction h with
  | zero h => exact h rfl
  | step _ _ _ ih => exact ih
/-- marks in memory -/
structure WoP (w : World) (W : Nat) (c : List Ins) (d : Nat) (l : List Bool) (w' : World) : Prop where
  b : Blk w' W 4 (bbv l)
  len : l.length = c.length
  s : ∀ x, l[x]? = some true → Av (Eg c) d x
  z : l[0]? = some true
  x : Ext w w'
section
variable {w w' w'' : World} {W : Nat} {c : List Ins} {d : Nat} {l : List Bool} {code : Sl}
theorem WoP.ext (h : WoP w W c d l w') (u : Ext w' w'') : WoP w W c d l w'' := ⟨h.b.ext u, h.len, h.s, h.z, h.x.trans u⟩
theorem count_set {l : List Bool} {y : Nat} (h : l[y]? = some false) : (l.set y true).count false < l.count false := by
  have hy := (List.getElem?_eq_some_iff.1 h)
  have h1 : l = l.take y ++ l[y]'hy.1 :: l.drop (y + 1) := by simp
  have h2 : l.set y true = l.take y ++ true :: l.drop (y + 1) := List.set_eq_take_append_cons_drop ▸ by rw [if_pos hy.1]
  rw [h2]
  conv => rhs; rw [h1]
  rw [hy.2]
  simp [List.count_append, List.count_cons]
theorem without_spec (h : Rd w 3 code (cdV c)) (hm : c.length ≤ 1000) {x : Int} {d : Nat} (hd : ∀ k : Nat, k < c.length → ((k : Int) = x ↔ k = d)) (h0 : x = 0 → d = 0) :
    Calls Try.prog 39 #[.slice code.a code.n code.c, .int .i64 x] w fun e w' => ∃ s : Sl, e = .returned (.slice s.a s.n s.c) ∧ Own w' w.heap.size 4 1 s (bbv (avL c d)) ∧ Ext w w' := by
  refine vc_39 _ _ _ _ ?_
  have hn := h.lenc
  simp only [eq_self, false_or, or_false, true_and, and_true, decide_eq_true_eq, decide_eq_false_iff_not, gd_st, gd_sf, exists_eq_left', exists_eq_left, Option.some.injEq, Sl.eta, Nat.reduceLeDiff, Int.reduceLE, Int.reduceLT, Int.reduceEq, Int.reduceNe, Nat.reduceMul, Nat.reduceAdd, Nat.reduceSub, Int.toNat_natCast, beq_iff_eq, bne_iff_ne, beq_eq_false_iff_ne, bne_eq_false_iff_eq, pick_and, pick_or, Bool.and_eq_true, Bool.or_eq_true, Bool.and_eq_false_iff, Bool.or_eq_false_iff, ne_eq, not_false_eq_true, Bool.not_eq_true', Bool.not_eq_false', reduceCtorEq, Nat.le_refl, Nat.zero_mul, Nat.mul_one, Nat.zero_add, Int.reduceToNat, ones, one, add_mk, Decidable.not_not, cond_true, cond_false, true_implies, false_implies, implies_true, Bool.not_true, Bool.not_false]
  refine ⟨⟨by omega, by omega, by omega, by omega⟩, fun w1 n1 => ?_⟩
  have z1 := n1.size
  have k1 := Blk.new n1
  rw [zrow_one, hn] at k1
  have o1 : Own w1 w.heap.size 4 1 ⟨some ⟨w.heap.size, 0, none⟩, code.n, code.n⟩ (List.replicate code.n (.bool false)) := Own.made n1 (Nat.le_refl _) (Nat.le_refl _) (by omega)
  have none_ : (∀ y, ¬ Av (Eg c) d y) → bbv (avL c d) = List.replicate code.n (.bool false) := fun hno => by
    apply List.ext_getElem?
    intro i
    unfold bbv
    by_cases hi : i < c.length
    · rw [List.getElem?_map, avL_get hi, List.getElem?_replicate, if_pos (by omega)]
      have : avB c d i = false := by
        cases hb : avB c d i with
        | false => rfl
        | true => exact absurd (avB_iff.1 hb) (hno i)
      rw [this]; rfl
    · rw [List.getElem?_eq_none (by simp; omega), List.getElem?_eq_none (by simp; omega)]
  refine ⟨fun hne => ⟨fun hx0 => ?_, fun hx0 => ?_⟩, fun he => ?_⟩
  · refine ⟨⟨some ⟨w.heap.size, 0, none⟩, code.n, code.n⟩, rfl, ?_, n1.ext⟩
    rw [none_ fun y hy => by rw [h0 hx0] at hy; exact no_av0' hy]
    exact o1
  rotate_left
  · refine ⟨⟨some ⟨w.heap.size, 0, none⟩, code.n, code.n⟩, rfl, ?_, n1.ext⟩
    have hc : c = [] := List.eq_nil_of_length_eq_zero (by omega)
    subst hc
    have e0 : code.n = 0 := by simpa using hn
    rw [e0] at o1 ⊢
    exact o1
  have hcl : 0 < c.length := by omega
  have hd0 : 0 ≠ d := fun e => hx0 ((hd 0 hcl).2 e).symm
  refine ⟨by omega, k1.canSet 0 (by simp; omega), fun w2 s2 => ?_⟩
  have k2 := s2.blk1 k1
  have u2 : Upd (fun k => k = w.heap.size) w1 w2 := s2.upd
  have P2 : WoP w w.heap.size c d ((List.replicate c.length false).set 0 true) w2 := by
    refine ⟨?_, by simp, fun y hy => ?_, by rw [List.getElem?_set_self (by simp; exact hcl)], n1.ext.fresh u2 (by rintro k rfl; exact Nat.le_refl _)⟩
    · have e : bbv ((List.replicate c.length false).set 0 true) = (List.replicate c.length (Value.bool false)).set 0 (.bool true) := by unfold bbv; rw [List.map_set, List.map_replicate]
      rw [e]; exact k2
    · rw [List.getElem?_set] at hy
      by_cases e : 0 = y
      · subst e; exact .zero hd0
      · rw [if_neg e, List.getElem?_replicate] at hy
        split at hy <;> cases hy
  refine ⟨fun b w' => ∃ m l, WoP w w.heap.size c d l w' ∧ (b = true → m = l.count false + 1) ∧ (b = false → m = 0 ∧ ∀ f y, l[f]? = some true → y ∈ nxT c f → y ≠ d → l[y]? = some true), fun b w' => least fun m => ∃ l, WoP w w.heap.size c d l w' ∧ (b = true → m = l.count false + 1) ∧ (b = false → m = 0 ∧ ∀ f y, l[f]? = some true → y ∈ nxT c f → y ≠ d → l[y]? = some true),
    ⟨_, _, P2, fun _ => rfl, fun h => (by cases h)⟩, ?_⟩
  rintro _ b w3 hJ
  have hP := least_spec (p := fun m => ∃ l, WoP w w.heap.size c d l w3 ∧ (b = true → m = l.count false + 1) ∧ (b = false → m = 0 ∧ ∀ f y, l[f]? = some true → y ∈ nxT c f → y ≠ d → l[y]? = some true)) hJ
  obtain ⟨m0, em0⟩ : ∃ m0, m0 = (least fun m => ∃ l, WoP w w.heap.size c d l w3 ∧ (b = true → m = l.count false + 1) ∧ (b = false → m = 0 ∧ ∀ f y, l[f]? = some true → y ∈ nxT c f → y ≠ d → l[y]? = some true)) := ⟨_, rfl⟩
  rw [← em0] at hP
  obtain ⟨l, P3, ht, hf⟩ := hP
  refine ⟨fun hb => ?_, fun hb => ?_⟩
  rotate_left
  · obtain ⟨_, hcl3⟩ := hf hb
    have hl : l = avL c d := by
      have key : ∀ y, Av (Eg c) d y → l[y]? = some true := fun y hy => by
        induction hy with
        | zero _ => exact P3.z
        | step _ e hne ih => exact hcl3 _ _ ih e hne
      apply List.ext_getElem?
      intro i
      by_cases hi : i < c.length
      · rw [avL_get hi]
        obtain ⟨bb, hbb⟩ : ∃ bb, l[i]? = some bb := ⟨_, List.getElem?_eq_getElem (by rw [P3.len]; exact hi)⟩
        rw [hbb]
        cases bb with
        | true => rw [avB_iff.2 (P3.s i hbb)]
        | false =>
          cases hb2 : avB c d i with
          | false => rfl
          | true => have := key i (avB_iff.1 hb2); rw [hbb] at this; cases this
      · rw [List.getElem?_eq_none (by rw [P3.len]; omega), List.getElem?_eq_none (by simp; omega)]
    refine ⟨⟨some ⟨w.heap.size, 0, none⟩, code.n, code.n⟩, rfl, ?_, P3.x⟩
    rw [← hl]
    have := Own.of_blk (s := ⟨some ⟨w.heap.size, 0, none⟩, code.n, code.n⟩) (z := 1) P3.b (Nat.le_refl _) rfl (Nat.le_refl _) (by unfold maxLen; simp; omega) (by rw [bbv_length, P3.len]; dsimp only; omega)
    rw [List.take_of_length_le (by rw [bbv_length, P3.len]; dsimp only; omega)] at this
    exact this
  -- a round
  have hm0 := ht hb
  refine ⟨fun b1 n w' => ∃ (i : Nat) (l' : List Bool), n = (i : Nat) ∧ i ≤ c.length ∧ WoP w w.heap.size c d l' w' ∧ (b1 = false → l' = l ∧ ∀ f y, f < i → l[f]? = some true → y ∈ nxT c f → y ≠ d → l[y]? = some true) ∧ (b1 = true → l'.count false < l.count false) ∧ l'.count false ≤ l.count false, fun _ n _ => (c.length - n).toNat,
    ⟨0, l, rfl, Nat.zero_le _, P3, fun _ => ⟨rfl, fun f y h => absurd h (Nat.not_lt_zero _)⟩, fun h => (by cases h), Nat.le_refl _⟩, ?_⟩
  rintro _ b1 n w4 ⟨i, l', rfl, hi, P4, hF, hT, hle⟩
  have ei : IntKind.i64.wrap ((i : Int) + 1) = ((i + 1 : Nat) : Int) := by rw [wrap_i64 (by omega) (by omega)]; omega
  rw [ei]
  refine ⟨fun hlt => ?_, fun hge => ?_⟩
  rotate_left
  · have hx : ∃ m1, m1 < m0 ∧ ∃ l, WoP w w.heap.size c d l w4 ∧ (b1 = true → m1 = l.count false + 1) ∧ (b1 = false → m1 = 0 ∧ ∀ f y, l[f]? = some true → y ∈ nxT c f → y ≠ d → l[y]? = some true) := by
      cases b1 with
      | false =>
        obtain ⟨rfl, hF'⟩ := hF rfl
        refine ⟨0, by omega, l', P4, fun h => (by cases h), fun _ => ⟨rfl, fun f y hf => hF' f y ?_ hf⟩⟩
        have := (List.getElem?_eq_some_iff.1 hf).1
        rw [P4.len] at this; omega
      | true => have := hT rfl; exact ⟨l'.count false + 1, by omega, l', P4, fun _ => rfl, fun h => (by cases h)⟩
    obtain ⟨m1, hlt1, hx⟩ := hx
    refine ⟨⟨m1, hx⟩, Nat.lt_of_le_of_lt (least_le (p := fun m => ∃ l, WoP w w.heap.size c d l w4 ∧ (b1 = true → m = l.count false + 1) ∧ (b1 = false → m = 0 ∧ ∀ f y, l[f]? = some true → y ∈ nxT c f → y ≠ d → l[y]? = some true)) hx) ?_⟩
    dsimp only
    rw [← em0]; exact hlt1
  have hic : i < c.length := by omega
  obtain ⟨bi, hbi⟩ : ∃ bi, l'[i]? = some bi := ⟨_, List.getElem?_eq_getElem (by rw [P4.len]; exact hic)⟩
  refine ⟨by omega, hlt, bi, by rw [Int.toNat_natCast, P4.b.cell]; unfold bbv; rw [List.getElem?_map, hbi]; rfl, fun hbf => ⟨⟨i + 1, l', rfl, by omega, P4, fun h => ⟨(hF h).1, fun f y hf hlf => ?_⟩, hT, hle⟩, by dsimp only; omega⟩, fun hbt => ?_⟩
  · rcases Nat.lt_or_ge f i with h1 | h1
    · exact (hF h).2 f y h1 hlf
    · have : f = i := by omega
      subst this
      rw [← (hF h).1, hbi, hbf] at hlf; cases hlf
  subst hbt
  have hN : nextT c (i : Nat) = castL (nxT c i) := by unfold nextT; rw [if_pos ⟨by omega, by omega⟩, Int.toNat_natCast]
  refine ⟨(rnext_spec (h.ext P4.x) hm (i : Nat)).mono ?_⟩
  rintro e w5 ⟨s, rfl, o5, x5⟩
  rw [hN] at o5
  have hsn := o5.rd.leni
  have hcl5 : (castL (nxT c i)).length = (nxT c i).length := by unfold castL; rw [List.length_map]
  have h2 := nxT_le2 c i
  have z4 := P4.x.size
  refine ⟨s, rfl, fun b2 n w' => ∃ (k : Nat) (l2 : List Bool), n = (k : Nat) ∧ k ≤ (nxT c i).length ∧ WoP w w.heap.size c d l2 w' ∧ Own w' w4.heap.size 3 1 s (iv (castL (nxT c i))) ∧ (b2 = false → l2 = l ∧ b1 = false ∧ ∀ y ∈ (nxT c i).take k, y ≠ d → l[y]? = some true) ∧ (b2 = true → l2.count false < l.count false) ∧ l2.count false ≤ l.count false ∧ l2[i]? = some true, fun _ n _ => ((nxT c i).length - n).toNat,
    ⟨0, l', rfl, Nat.zero_le _, P4.ext x5, o5, fun hh => ⟨(hF hh).1, hh, fun y hy => by simp at hy⟩, hT, hle, hbi⟩, ?_⟩
  rintro _ b2 n w6 ⟨k, l2, rfl, hk, P6, o6, hF2, hT2, hle2, hi2⟩
  have ek : IntKind.i64.wrap ((k : Int) + 1) = ((k + 1 : Nat) : Int) := by rw [wrap_i64 (by omega) (by omega)]; omega
  rw [ek]
  refine ⟨fun hlt6 => ?_, fun hge6 => ⟨⟨i + 1, l2, rfl, by omega, P6, fun hh => ⟨(hF2 hh).1, fun f y hf hlf hy hne => ?_⟩, hT2, hle2⟩, by dsimp only; omega⟩⟩
  rotate_left
  · obtain ⟨e1, e2, e3⟩ := hF2 hh
    rcases Nat.lt_or_ge f i with h1 | h1
    · exact (hF e2).2 f y h1 hlf hy hne
    · have : f = i := by omega
      subst this
      exact e3 y (by rw [List.take_of_length_le (by omega)]; exact hy) hne
  obtain ⟨p, hp, hcp⟩ := o6.rd.2 (by omega)
  obtain ⟨y, hy⟩ : ∃ y, (nxT c i)[k]? = some y := ⟨_, List.getElem?_eq_getElem (by omega)⟩
  have hyc := hcp k (.int .i64 (y : Nat)) (by unfold iv castL; rw [List.getElem?_map, List.getElem?_map, hy]; rfl)
  have hym := List.mem_of_getElem? hy
  have hyn := (mem_nxT.1 hym).1
  have hyd := hd y hyn
  have next : (y ≠ d → l2[y]? = some true) → (∃ (k' : Nat) (l3 : List Bool), ((k + 1 : Nat) : Int) = (k' : Nat) ∧ k' ≤ (nxT c i).length ∧ WoP w w.heap.size c d l3 w6 ∧ Own w6 w4.heap.size 3 1 s (iv (castL (nxT c i))) ∧ (b2 = false → l3 = l ∧ b1 = false ∧ ∀ y ∈ (nxT c i).take k', y ≠ d → l[y]? = some true) ∧ (b2 = true → l3.count false < l.count false) ∧ l3.count false ≤ l.count false ∧ l3[i]? = some true) ∧
      (((nxT c i).length : Int) - ((k + 1 : Nat) : Int)).toNat < (((nxT c i).length : Int) - (k : Nat)).toNat := fun hh => by
    refine ⟨⟨k + 1, l2, rfl, by omega, P6, o6, fun hb => ⟨(hF2 hb).1, (hF2 hb).2.1, fun z hz hne => ?_⟩, hT2, hle2, hi2⟩, by omega⟩
    rw [take_snoc hy, List.mem_append, List.mem_singleton] at hz
    rcases hz with hz | rfl
    · exact (hF2 hb).2.2 z hz hne
    · rw [← (hF2 hb).1]; exact hh hne
  obtain ⟨by_, hby⟩ : ∃ by_, l2[y]? = some by_ := ⟨_, List.getElem?_eq_getElem (by rw [P6.len]; exact hyn)⟩
  refine ⟨by omega, by omega, p, hp, _, by rw [Int.toNat_natCast]; exact hyc, fun hne => ⟨by omega, by omega, p, hp, _, by rw [Int.toNat_natCast]; exact hyc, by omega, by omega, by_, by rw [Int.toNat_natCast, P6.b.cell]; unfold bbv; rw [List.getElem?_map, hby]; rfl, fun hbf => ⟨by omega, by omega, p, hp, _, by rw [Int.toNat_natCast]; exact hyc, by omega, by omega, by rw [Int.toNat_natCast]; exact P6.b.canSet y (by rw [bbv_length, P6.len]; exact hyn), fun w7 s7 => ?_⟩, fun hbt => next fun _ => by rw [hby, hbt]⟩, fun he => next fun hh => absurd (hyd.1 he) hh⟩
  rw [Int.toNat_natCast] at s7
  subst hbf
  have u7 : Upd (fun k => k = w.heap.size) w6 w7 := s7.upd
  have hcs := count_set hby
  refine ⟨⟨k + 1, l2.set y true, rfl, by omega, ⟨?_, by rw [List.length_set]; exact P6.len, fun z hz => ?_, ?_, P6.x.fresh u7 (by rintro k rfl; exact Nat.le_refl _)⟩, o6.upd u7 (fun q hq e => own_blk_ne o6 P6.b (by decide) q hq e), fun h => (by cases h), fun _ => by omega, by omega, ?_⟩, by dsimp only; omega⟩
  · have e : bbv (l2.set y true) = (bbv l2).set y (.bool true) := by unfold bbv; rw [List.map_set]
    rw [e]; exact s7.blk1 P6.b
  · rw [List.getElem?_set] at hz
    by_cases e : y = z
    · subst e; exact .step (P6.s i hi2) hym (fun e => hne (hyd.2 e))
    · rw [if_neg e] at hz; exact P6.s z hz
  · rw [List.getElem?_set]
    by_cases e : y = 0
    · subst e; rw [if_pos rfl, if_pos (by rw [P6.len]; exact hcl)]
    · rw [if_neg e]; exact P6.z
  · rw [List.getElem?_set]
    by_cases e : y = i
    · subst e; rw [if_pos rfl, if_pos (by rw [P6.len]; exact hyn)]
    · rw [if_neg e]; exact hi2
end
end Go.Proofs.Ytilaeefmfiihlaa.V
