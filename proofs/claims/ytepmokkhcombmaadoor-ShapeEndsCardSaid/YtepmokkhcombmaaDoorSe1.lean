/-
  ShapeEnds: its walk.
-/
import Derived.Test.YtepmokkhcombmaaDoorSr2
namespace Go.Proofs.YtepmokkhcombmaaDoor.V
open Go Go.RowKit
set_option linter.unusedVariables false
set_option linter.unusedSimpArgs false
set_option linter.unusedSectionVars false
set_option maxRecDepth 100000

theorem chn_from {a b : Nat} : ∀ (d k : Nat), k + d = 65536 → 1 ≤ k → (∀ j, j + 1 < k → (ch a b j + b) % M64 ≠ 0) → ∃ n, ChN a b n
  | 0, k, h, h1, hg => ⟨k, h1, by omega, hg, fun h => absurd h (by omega)⟩
  | d + 1, k, h, h1, hg =>
    if hz : (ch a b (k - 1) + b) % M64 = 0 then ⟨k, h1, by omega, hg, fun _ => hz⟩
    else chn_from d (k + 1) (by omega) (by omega) fun j hj => by
      rcases Nat.lt_or_ge (j + 1) k with h2 | h2
      · exact hg j h2
      · have : j = k - 1 := by omega
        rw [this]; exact hz
theorem chn_ex (a b : Nat) : ∃ n, ChN a b n := chn_from 65535 1 rfl (Nat.le_refl _) fun j hj => absurd hj (by omega)
theorem dok_ch {a : Nat} (ha : a < M64) : Dok (chR a) [] := by
  refine ⟨fun r hr => ?_, ?_, Nat.zero_le _, fun t ht => (by cases ht), fun t ht => (by cases ht)⟩
  · rw [List.mem_singleton] at hr
    subst hr
    refine ⟨fun c hc => (by cases hc), fun c hc => ?_, by simp, by simp⟩
    rw [List.mem_singleton] at hc
    subst hc
    exact ha
  · simp [rowsB, rowB, cellsB, cellB]
theorem mkB_tail (t e : List UInt8) : ((mkB (t ++ e)).extract t.length (mkB (t ++ e)).size).toList = e := by
  rw [mkB_size]
  have : (mkB (t ++ e)).extract t.length (t ++ e).length = mkB e := by
    apply ByteArray.ext
    unfold mkB
    simp [ByteArray.data_extract]
  rw [this, mkB_list]
theorem wrap_add_u (x b : Nat) : IntKind.u64.wrap ((x : Int) + (b : Nat)) = (((x + b) % M64 : Nat) : Int) := by rw [← Int.natCast_add, wrap_u64mod]
theorem wrap_back {x b : Nat} (hx : x < M64) (hb : b < M64) (hb1 : b % 2 = 1) (h : (x + b) % M64 = 0) : IntKind.u64.wrap (((0 : Nat) : Int) - (b : Nat)) = (x : Nat) := by
  have e : x + b = M64 := by unfold M64 at *; omega
  unfold IntKind.wrap
  simp [IntKind.signed, IntKind.bits]
  unfold M64 at *
  omega
theorem objsT_len {of_ : Nat → Ob} (ho : ∀ id, id < M64 → Okc (of_ id).cells) (hb : ∀ id, obB (of_ id) ≤ 100000000) : ∀ {f i : Nat} {m : List Nat}, f + i ≤ 65536 → Gd m → (objsT of_ f i m).1.length ≤ f * 100000000
  | 0, i, m, _, _ => by simp [objsT]
  | f + 1, i, m, hf, h => by
    cases hm : m[i]? with
    | none =>
      rw [objsT_end (List.getElem?_eq_none_iff.1 hm)]
      exact Nat.zero_le _
    | some id =>
      have hid := h.lt id (List.mem_of_getElem? hm)
      have h1 := objT_gd h (show i + 1 ≤ 65536 by omega) (ho id hid)
      have h2 := objsT_len ho hb (f := f) (i := i + 1) (by omega) h1.1
      have h3 := hb id
      rw [objsT_step hm]
      dsimp only
      rw [List.length_append]
      omega
theorem seenT_len {of_ : Nat → Ob} {R : List Rp} (ho : ∀ id, id < M64 → Okc (of_ id).cells) (hb : ∀ id, obB (of_ id) ≤ 100000000) (okr : Okr R) : (seenT of_ R).1.length ≤ rowsB R + 6553600000000 := by
  have h1 := rowsT_gd Gd.nil okr
  have h2 := objsT_len ho hb (f := 65536) (i := 0) (by omega) h1.1
  unfold seenT
  dsimp only
  rw [List.length_append]
  omega
set_option maxHeartbeats 2000000 in
theorem shapeends_walk (w : World) (L : Lay w) (v0 v1 : Value) (x0 : (Par.one (.int .u64)).T) (x1 : (Par.one (.int .u64)).T) (h0 : (Par.one (.int .u64)).Is w v0 x0) (h1 : (Par.one (.int .u64)).Is w v1 x1) :
    Calls Tryd.prog 5 #[v0, v1] w fun e w' => e = .returned (.bool true) ∧ Ext w w' := by
  obtain ⟨rfl, wf0⟩ := h0
  obtain ⟨rfl, wf1⟩ := h1
  have wf0 := wf_u64 wf0
  have wf1 := wf_u64 wf1
  have hT := tbf L
  obtain ⟨n0, e0⟩ : ∃ n : Nat, @Eq Int x0 ((n : Nat) : Int) := ⟨Int.toNat x0, (Int.toNat_of_nonneg wf0.1).symm⟩
  obtain ⟨n1, e1⟩ : ∃ n : Nat, @Eq Int x1 ((n : Nat) : Int) := ⟨Int.toNat x1, (Int.toNat_of_nonneg wf1.1).symm⟩
  have l0 : n0 < M64 := by rw [e0] at wf0; unfold M64; omega
  rw [e0, e1]
  clear e0 e1 wf0 wf1
  obtain ⟨b, eb, ob, lb⟩ := wrap_odd n1
  refine vc_5 _ _ _ _ ?_
  simp only [eq_self, false_or, or_false, true_and, and_true, decide_eq_true_eq, decide_eq_false_iff_not, gd_st, gd_sf, exists_eq_left', exists_eq_left, Option.some.injEq, Sl.eta, Nat.reduceLeDiff, Int.reduceLE, Int.reduceLT, Int.reduceEq, Int.reduceNe, Nat.reduceMul, Nat.reduceAdd, Nat.reduceSub, Int.toNat_natCast, beq_iff_eq, bne_iff_ne, beq_eq_false_iff_ne, bne_eq_false_iff_eq, pick_and, pick_or, Bool.and_eq_true, Bool.or_eq_true, Bool.and_eq_false_iff, Bool.or_eq_false_iff, ne_eq, not_false_eq_true, Bool.not_eq_true', Bool.not_eq_false', reduceCtorEq, Nat.le_refl, Nat.zero_mul, Nat.mul_one, Nat.zero_add, Int.reduceToNat, ones, one, add_mk, Decidable.not_not, cond_true, cond_false, true_implies, false_implies, implies_true, Bool.not_true, Bool.not_false]
  simp only [eb]
  refine ⟨(shown_spec hT).mono ?_⟩
  rintro e w1 ⟨rfl, y1⟩
  refine ⟨_, rfl, fun h => (by cases h), fun _ => ?_⟩
  obtain ⟨a, ha, ha0, hal⟩ : ∃ a : Nat, a = (if n0 = 0 then 1 else n0) ∧ a ≠ 0 ∧ a < M64 := by
    refine ⟨_, rfl, ?_, ?_⟩
    · split <;> omega
    · split
      · decide
      · exact l0
  obtain ⟨N, hN⟩ := chn_ex a b
  have hN1 := hN.one
  have hN2 := hN.most
  obtain ⟨t, ht0, hseen⟩ := seen_ch ob ha0 hal hN
  refine ⟨fun n w' => n = (a : Nat) ∧ w' = w1, ⟨fun h => ⟨?_, rfl⟩, fun h => ⟨?_, rfl⟩⟩, ?_⟩
  · have : n0 = 0 := by simpa using h
    rw [ha, if_pos this]; rfl
  · have : n0 ≠ 0 := by simpa using h
    rw [ha, if_neg this]
  rintro _ n w1' ⟨rfl, hw1⟩
  rw [hw1]
  refine ⟨rfl, fun w2 m2 => ⟨rfl, fun w3 m3 => ?_⟩⟩
  have y13 := m2.ext.trans m3.ext
  have y03 := y1.trans y13
  have hR : RwK (Ext w3) ⟨some ⟨w2.heap.size, 0, none⟩, 1, 1⟩ (chR a) := by
    refine ⟨[(0, 0, ⟨none, 0, 0⟩, ⟨some ⟨w1.heap.size, 0, none⟩, 1, 1⟩)], rfl, fun k q r hq hr => ?_, fun w' u => ⟨?_, fun k q r hq hr => ?_⟩⟩
    · match k with
      | 0 => simp at hq hr; subst hq; subst hr; exact ⟨rfl, rfl⟩
      | k + 1 => simp at hq
    · exact ((Blk.new m3).ext u).rd (z := 4) (o := 0) (n := 1) (c := 1) (by simp)
    · match k with
      | 0 => simp at hq hr; subst hq; subst hr; exact ⟨Rd.nil0 _ _, ((Blk.new m2).ext (m3.ext.trans u)).rd (z := 3) (o := 0) (n := 1) (c := 1) (by simp)⟩
      | k + 1 => simp at hq
  refine ⟨(viewed_spec (b := b) hR (thk_nil w3) (dok_ch hal) lb (hT.ext y03)).mono ?_⟩
  rintro e w4 ⟨qs, rfl, oq, y34⟩
  have y04 := y03.trans y34
  rw [hseen] at oq
  simp only [hseen] at oq ⊢
  have hqn : qs.n = N := by have := oq.rd.len1; unfold uv at this; rw [List.length_map, chL_len] at this; exact this.symm
  refine ⟨_, qs, rfl, ?_⟩
  refine ⟨fun v n w' => ∃ i : Nat, n = (i : Nat) ∧ i ≤ N ∧ v = (ch a b i : Nat) ∧ w' = w4, fun _ n _ => (N - n).toNat, ⟨0, rfl, Nat.zero_le _, rfl, rfl⟩, ?_⟩
  rintro _ v n w5 ⟨i, rfl, hi, rfl, hw5⟩
  rw [hw5]
  have ei : IntKind.i64.wrap ((i : Int) + 1) = ((i + 1 : Nat) : Int) := by rw [wrap_i64 (by omega) (by omega)]; omega
  rw [ei, wrap_add_u]
  have hlt := ch_lt (b := b) hal i
  refine ⟨fun hlt1 => ?_, fun hge => ?_⟩
  · obtain ⟨p, hp, hc⟩ := uv_at oq.rd (i := i) (by rw [chL_len]; omega)
    have hce : (chL a b N)[i]'(by rw [chL_len]; omega) = ch a b i := by
      have := chL_get (a := a) (b := b) (n := N) (k := i) (by omega)
      rw [List.getElem?_eq_some_iff] at this
      exact this.2
    rw [hce] at hc
    simp only [Int.toNat_natCast]
    refine ⟨by omega, by omega, p, hp, _, hc, fun h => absurd rfl h, fun _ => ⟨fun hz => ⟨⟨i + 1, rfl, by omega, ?_, by first | exact True.intro | rfl⟩, by omega⟩, fun hz => ⟨⟨i + 1, rfl, by omega, ?_, by first | exact True.intro | rfl⟩, by omega⟩⟩⟩
    · have hz : (ch a b i + b) % M64 = 0 := by omega
      rw [hz, wrap_back hlt lb ob hz]
      show _ = ((nxtT (ch a b i) b : Nat) : Int)
      unfold nxtT
      rw [if_pos hz]
    · have hz : (ch a b i + b) % M64 ≠ 0 := by omega
      show _ = ((nxtT (ch a b i) b : Nat) : Int)
      unfold nxtT
      rw [if_neg hz]
  refine ⟨fun v n w' => n = (N : Nat) ∧ v = (ch a b (N - 1) : Nat) ∧ w' = w4, ?_, ?_⟩
  · refine ⟨fun v n w' => ∃ k : Nat, n = (k : Nat) ∧ 1 ≤ k ∧ k ≤ N ∧ v = (ch a b (k - 1) : Nat) ∧ w' = w4, fun _ n _ => (N - n).toNat, ⟨1, rfl, Nat.le_refl _, hN1, rfl, rfl⟩, ?_⟩
    rintro _ v n w6 ⟨k, rfl, hk1, hk, rfl, hw6⟩
    rw [hw6]
    have ek : IntKind.i64.wrap ((k : Int) + 1) = ((k + 1 : Nat) : Int) := by rw [wrap_i64 (by omega) (by omega)]; omega
    rw [ek, wrap_add_u]
    refine ⟨fun h1 => ⟨fun h2 => ?_, fun h2 => ?_⟩, fun h1 => ?_⟩
    · have h2 : (ch a b (k - 1) + b) % M64 ≠ 0 := by first | omega | (simp only [beq_iff_eq, bne_iff_ne, ne_eq, Bool.not_eq_true] at h2; omega)
      have hkN : k < N := by
        rcases Nat.lt_or_ge k N with h3 | h3
        · exact h3
        · have h4 : k = N := by omega
          rw [h4] at h2
          exact absurd (hN.stop (by omega)) h2
      obtain ⟨j, rfl⟩ : ∃ j, k = j + 1 := ⟨k - 1, by omega⟩
      refine ⟨⟨j + 1 + 1, rfl, by omega, by omega, ?_, by first | exact True.intro | rfl⟩, by show (((N : Nat) : Int) - ((j + 1 + 1 : Nat) : Int)).toNat < (((N : Nat) : Int) - ((j + 1 : Nat) : Int)).toNat; omega⟩
      show _ = ((nxtT (ch a b j) b : Nat) : Int)
      unfold nxtT
      rw [Nat.add_sub_cancel] at h2 ⊢
      rw [if_neg h2]
    · have h2 : (ch a b (k - 1) + b) % M64 = 0 := by first | omega | (simp only [beq_iff_eq, bne_iff_ne, ne_eq, Bool.not_eq_true] at h2; omega)
      have hkN : k = N := by
        rcases Nat.lt_or_ge k N with h3 | h3
        · exact absurd h2 (hN.go (k - 1) (by omega))
        · omega
      rw [hkN]; exact ⟨rfl, rfl, rfl⟩
    · have hkN : k = N := by omega
      rw [hkN]; exact ⟨rfl, rfl, rfl⟩
  rintro _ v n w6 ⟨rfl, rfl, hw6⟩
  rw [hw6, wrap_add_u]
  have e35 : (⟨#[35]⟩ : ByteArray) = mkB [35] := rfl
  have e5 : (⟨#[32, 111, 58, 32, 35]⟩ : ByteArray) = mkB [32, 111, 58, 32, 35] := rfl
  have e10 : (⟨#[10]⟩ : ByteArray) = mkB [10] := rfl
  have e2 : (⟨#[63, 10]⟩ : ByteArray) = mkB [63, 10] := rfl
  rw [e35, e5, e10, e2]
  have lN := itoa_len (n := ((N : Nat) : Int)) (by omega) (by omega)
  refine ⟨(digits_spec (by omega) (by omega)).mono ?_⟩
  rintro e w7 ⟨rfl, y47⟩
  refine ⟨_, rfl, by rw [mkB_size, mkB_size]; simp; omega, by simp only [mkB_append, mkB_size, List.length_append, List.length_cons, List.length_nil]; omega, ?_⟩
  refine ⟨fun c w' => c = mkB (chE a b N) ∧ Ext w4 w', ⟨fun hz => ?_, fun hz => ?_⟩, ?_⟩
  · have hz : (ch a b (N - 1) + b) % M64 = 0 := by first | omega | (simp only [beq_iff_eq, bne_iff_ne, ne_eq, Bool.not_eq_true] at hz; omega)
    refine ⟨(digits_spec (by omega) (by omega)).mono ?_⟩
    rintro e w8 ⟨rfl, y78⟩
    refine ⟨_, rfl, by simp only [mkB_append, mkB_size, List.length_append, List.length_cons, List.length_nil]; omega, by simp only [mkB_append, mkB_size, List.length_append, List.length_cons, List.length_nil]; omega, ?_, y47.trans y78⟩
    simp only [mkB_append]
    congr 1
    unfold chE
    rw [if_pos hz]
    simp
  · have hz : (ch a b (N - 1) + b) % M64 ≠ 0 := by first | omega | (simp only [beq_iff_eq, bne_iff_ne, ne_eq, Bool.not_eq_true] at hz; omega)
    refine ⟨by simp only [mkB_append, mkB_size, List.length_append, List.length_cons, List.length_nil]; omega, ?_, y47⟩
    simp only [mkB_append]
    congr 1
    unfold chE
    rw [if_neg hz]
    simp
  rintro _ c w8 ⟨rfl, y48⟩
  have htl : 1 ≤ t.length := by
    cases t with
    | nil => exact absurd rfl ht0
    | cons x t => simp
  have lE : (chE a b N).length ≤ 1000 := by
    unfold chE
    split <;> simp <;> omega
  refine ⟨fun _ => ⟨fun _ => ?_, fun h => ?_⟩, fun h => absurd (by rw [hqn]) h⟩
  · have lT : (t ++ chE a b N).length ≤ 10000000000000 := by
      have D := dok_ch hal
      have h1 := seenT_len (of_ := ofT b []) (D.oko lb) D.obo D.okr
      rw [hseen] at h1
      have h2 := D.bR
      dsimp only at h1
      omega
    have eW : IntKind.i64.wrap (((mkB (t ++ chE a b N)).size : Int) - ((mkB (chE a b N)).size : Int)) = (t.length : Nat) := by
      rw [mkB_size, mkB_size, wrap_i64 (by rw [List.length_append]; omega) (by omega), List.length_append]; omega
    rw [eW]
    refine ⟨by omega, by rw [mkB_size, List.length_append]; omega, ?_, y04.trans y48⟩
    rw [Int.toNat_natCast, mkB_tail, mkB_list]
    simp
  · refine absurd h ?_
    rw [mkB_size, mkB_size, List.length_append]
    simp
    omega
end Go.Proofs.YtepmokkhcombmaaDoor.V
