/-
  A cell, and a list of cells, told.
-/
import Derived.Test.YtepmokkhcombmaaDoorSv2
namespace Go.Proofs.YtepmokkhcombmaaDoor.V
open Go Go.RowKit
set_option linter.unusedVariables false
set_option linter.unusedSimpArgs false
set_option linter.unusedSectionVars false
set_option maxRecDepth 100000

abbrev clV1 (c : Cl) : List Value := [.bool c.ref, .int .u64 (c.id : Nat), .string (mkB c.text)]
def clV (l : List Cl) : List Value := l.flatMap clV1
theorem clV_len : ∀ c : List Cl, (clV c).length = c.length * 3
  | [] => rfl
  | x :: c => by
    have := clV_len c
    unfold clV at *
    simp only [List.flatMap_cons, List.length_append, List.length_cons, this, List.length_nil]
    omega
theorem clV_append (a b : List Cl) : clV (a ++ b) = clV a ++ clV b := by simp [clV]
theorem clV_ones (c : List Cl) : ∀ v ∈ clV c, one v := by
  intro v hv
  unfold clV at hv
  obtain ⟨x, _, hx⟩ := List.mem_flatMap.1 hv
  simp at hx
  rcases hx with rfl | rfl | rfl <;> trivial
theorem clV_get : ∀ {c : List Cl} {i : Nat} {x : Cl}, c[i]? = some x → ∀ j, j < 3 → (clV c)[i * 3 + j]? = (clV1 x)[j]?
  | [], _, _, h, _, _ => by simp at h
  | y :: c, 0, x, h, j, hj => by
    simp at h; subst h
    unfold clV
    rw [List.flatMap_cons, List.getElem?_append_left (by simp; omega), Nat.zero_mul, Nat.zero_add]
  | y :: c, i + 1, x, h, j, hj => by
    have ih := clV_get (c := c) (i := i) (x := x) (by simpa using h) j hj
    unfold clV at *
    rw [List.flatMap_cons, List.getElem?_append_right (by simp; omega), ← ih]
    congr 1
    simp
    omega
theorem Rd.cl {w : World} {s : Sl} {l : List Cl} (h : Rd w 3 s (clV l)) {i : Nat} {x : Cl} (hx : l[i]? = some x) : ∃ p, s.a = some p ∧ (w.cell? ((p.add (i * 3)).add 0) = some (.bool x.ref) ∧ w.cell? ((p.add (i * 3)).add 1) = some (.int .u64 (x.id : Nat)) ∧ w.cell? ((p.add (i * 3)).add 2) = some (.string (mkB x.text))) := by
  have hlt := (List.getElem?_eq_some_iff.1 hx).1
  have hl := h.1
  rw [clV_len] at hl
  obtain ⟨p, hp, hc⟩ := h.2 (by omega)
  refine ⟨p, hp, ?_, ?_, ?_⟩
  · rw [add_add]; exact hc _ _ (clV_get hx 0 (by decide))
  · rw [add_add]; exact hc _ _ (clV_get hx 1 (by decide))
  · rw [add_add]; exact hc _ _ (clV_get hx 2 (by decide))
theorem Rd.lencl {w : World} {s : Sl} {l : List Cl} (h : Rd w 3 s (clV l)) : s.n = l.length := by have := h.1; rw [clV_len] at this; omega
section
variable {w w' w1 : World} {B g r : Nat} {o : Option Nat} {ts ms qs : Sl} {txt : List UInt8} {m A : List Nat}
/-- one more number -/
theorem SP.met (h : SP w B g r o ts ms qs txt m A) {x : Nat} (hx : x ∉ m) (hxl : x < 18446744073709551616) (hl : m.length < 65536) (n1 : NewW w (.cells #[.int .u64 (x : Nat)] 28) w1) :
    ∃ (s' : Sl) (w2 : World), Runs Tryd.prog (Builtin.append_ #[25, 25] 25 #[.slice ms.a ms.n ms.c, .slice (some ⟨w.heap.size, 0, none⟩) 1 1]) w1 (.slice s'.a s'.n s'.c) w2 ∧ Upd (own1 ms) w1 w2 ∧ CanSet w2 ⟨g, 2, none⟩ 1 ∧
      ∀ w3, SetW w2 ⟨g, 2, none⟩ [.slice s'.a s'.n s'.c] w3 → s'.n = m.length + 1 ∧ Blk w3 g 65 (vwV ts r s') ∧ (∀ (k T : Nat) (cs : List Value), Blk w k T cs → T ≠ 28 → T ≠ 65 → Blk w3 k T cs) ∧
        ∀ w4, Ext w3 w4 → ∃ w5, (Instr.mapUpdate 63 (.map (some r)) (.int .u64 (x : Nat)) (.int .i64 ((m.length + 1 : Nat) : Int))).run Tryd.prog w4 = .ok () w5 ∧ ST w5 B g r o txt (m ++ [x]) A ∧ FR B w w5 := by
  have h1 := h.ext n1.ext
  have z0 := h.size
  have z1 := h1.size
  have hn := h.mn
  have rd : Rd w1 1 ⟨some ⟨w.heap.size, 0, none⟩, 1, 1⟩ (uv [x]) := (Blk.new n1).rd (z := 1) (o := 0) (n := 1) (c := 1) (by simp)
  obtain ⟨s', w2, hr, hrn, o2, u2, hfr⟩ := h1.hm.append (t := 25) (ty := 25) tab_ok (by rfl) (by rfl) (by decide) rd (fun v hv => by unfold uv at hv; obtain ⟨_, _, rfl⟩ := List.mem_map.1 hv; trivial) (by dsimp only; omega) (by dsimp only; omega) (by omega)
  have e2 : uv m ++ uv [x] = uv (m ++ [x]) := by unfold uv; rw [List.map_append]
  rw [e2] at o2
  dsimp only at hrn
  have nb : ∀ {k T : Nat} {cs : List Value}, Blk w1 k T cs → T ≠ 28 → Blk w2 k T cs := fun {k T cs} hb hT => hb.upd u2 (by rintro ⟨p, hp, e⟩; exact own_blk_ne h1.hm hb (fun e => hT e.symm) p hp e.symm)
  have g2 := nb h1.hg (by decide)
  have t2 : Own w2 B 5 1 ts (tv txt) := h1.ht.upd u2 (by rintro p hp ⟨q, hq, e⟩; exact own_ne h1.ht h1.hm (by decide) p q hp hq e)
  have ap2 : Apart qs s' ∨ o = none := by
    cases ho : o with
    | none => exact .inr rfl
    | some a =>
      obtain ⟨_, q2⟩ := h1.hq a ho
      refine .inl fun p q hp hq => ?_
      rcases hfr q hq with h3 | h3
      · exact h1.hap p q hp h3
      · have := (q2.base p hp).2; omega
  refine ⟨s', w2, hr, u2, g2.canSet 2 (by simp), fun w3 s3 => ?_⟩
  have u3 : Upd (fun k => k = g) w2 w3 := s3.upd
  have g3 : Blk w3 g 65 (vwV ts r s') := s3.blk1 g2
  have keep3 : ∀ (k T : Nat) (cs : List Value), Blk w k T cs → T ≠ 28 → T ≠ 65 → Blk w3 k T cs := fun k T cs hb h1' h2' => by
    have hb2 := nb (hb.ext n1.ext) h1'
    exact hb2.upd u3 (hb2.ne g2 h2')
  refine ⟨by omega, g3, keep3, fun w4 x4 => ?_⟩
  have r2 : MapI w2 r .u64 (nF m) := h1.hr.upd u2 (by
    rintro ⟨p, hp, e⟩
    obtain ⟨g', cs, ha, _, hb, _⟩ := h1.hm.blk (by rw [hp]; simp)
    rw [hp] at ha; injection ha with ha; subst ha
    exact h1.hr.ne hb e)
  have r4 : MapI w4 r .u64 (nF m) := (r2.upd u3 (r2.ne g2)).ext x4
  obtain ⟨w5, hrun, r5, u5⟩ := r4.put (mty := 63) (kt := 28) (et := 3) mk_und mk_key (x : Nat) (.int .i64 ((m.length + 1 : Nat) : Int))
  have rB : ∀ {k T : Nat} {cs : List Value}, Blk w4 k T cs → Blk w5 k T cs := fun {k T cs} hb => hb.upd u5 fun e => r4.ne hb e.symm
  have rO : ∀ {e z : Nat} {s : Sl} {xs : List Value}, Own w4 B e z s xs → Own w5 B e z s xs := fun {e z s xs} ho => ho.upd u5 fun p hp e => by
    obtain ⟨g', cs, ha, _, hb, _⟩ := ho.blk (by rw [hp]; simp)
    rw [hp] at ha; injection ha with ha; subst ha
    exact r4.ne hb e.symm
  have o3 := o2.upd u3 (own_blk_ne o2 g2 (by decide))
  have t3 := t2.upd u3 (own_blk_ne t2 g2 (by decide))
  have fr : FR B w w5 := by
    refine ⟨?_, fun k T cs hb h1' h2' h3' h4' => rB ((keep3 k T cs hb h2' h3').ext x4)⟩
    have a1 : Upd (fun k => B ≤ k) w w2 := Upd.trans n1.ext u2 fun i _ hn => ⟨not_false, by rintro ⟨p, hp, rfl⟩; exact hn (h1.hm.base p hp).1⟩
    have a3 : Upd (fun k => B ≤ k) w w3 := a1.trans u3 fun i _ hn => ⟨hn, fun e => hn (by rw [e]; exact h.hlo.1)⟩
    exact (a3.ext x4).trans u5 fun i _ hn => ⟨hn, fun e => hn (by rw [e]; exact h.hlo.2)⟩
  have gd' := (numT_gd h.hgd hxl).1
  have en : (numT m x).2 = m ++ [x] := by unfold numT; rw [if_neg hx, if_neg (by omega)]
  rw [en] at gd'
  refine ⟨w5, hrun, ?_, fr⟩
  rcases ap2 with hap | ho
  · refine ⟨ts, s', qs, rB (g3.ext x4), rO (t3.ext x4), rO (o3.ext x4), hap, fun a ha => ?_, by rw [← nF_snoc hx]; exact r5, h.hlo, gd'⟩
    obtain ⟨q1, q2⟩ := h.hq a ha
    refine ⟨rB ((keep3 _ _ _ q1 (by decide) (by decide)).ext x4), rO (Own.ext ?_ x4)⟩
    have q2' : Own w2 B 28 1 qs (uv A) := (q2.ext n1.ext).upd u2 (by rintro p hp ⟨q, hq, e⟩; exact h.hap p q hp hq e)
    exact q2'.upd u3 (own_blk_ne q2' g2 (by decide))
  · exact ⟨ts, s', ⟨none, 0, 0⟩, rB (g3.ext x4), rO (t3.ext x4), rO (o3.ext x4), fun p q hp => (by cases hp), fun a ha => (by rw [ho] at ha; cases ha), by rw [← nF_snoc hx]; exact r5, h.hlo, gd'⟩
theorem cell_spec (h : ST w B g r o txt m A) (c : Cl) (hc : c.id < 18446744073709551616) (hT : TB B w) (hl : txt.length + cellB c ≤ 65000000000000) :
    Calls Tryd.prog 24 #[.pointer (some ⟨g, 0, none⟩), .agg #[.bool c.ref, .int .u64 (c.id : Nat), .string (mkB c.text)]] w fun e w' => e = .returned (.tuple #[]) ∧ ST w' B g r o (txt ++ (cellT m c).1) (cellT m c).2 A ∧ FR B w w' := by
  refine vc_24 _ _ _ _ _ _ ?_
  unfold cellB at hl
  simp only [eq_self, false_or, or_false, true_and, and_true, decide_eq_true_eq, decide_eq_false_iff_not, gd_st, gd_sf, exists_eq_left', exists_eq_left, Option.some.injEq, Sl.eta, Nat.reduceLeDiff, Int.reduceLE, Int.reduceLT, Int.reduceEq, Int.reduceNe, Nat.reduceMul, Nat.reduceAdd, Nat.reduceSub, Int.toNat_natCast, beq_iff_eq, bne_iff_ne, beq_eq_false_iff_ne, bne_eq_false_iff_eq, pick_and, pick_or, Bool.and_eq_true, Bool.or_eq_true, Bool.and_eq_false_iff, Bool.or_eq_false_iff, ne_eq, not_false_eq_true, Bool.not_eq_true', Bool.not_eq_false', reduceCtorEq, Nat.le_refl, Nat.zero_mul, Nat.mul_one, Nat.zero_add, Int.reduceToNat, ones, one, add_mk, Decidable.not_not, cond_true, cond_false, true_implies, false_implies, implies_true, Bool.not_true, Bool.not_false]
  intro w1 n1
  have k1 : Blk w1 w.heap.size 49 [.bool c.ref, .int .u64 (c.id : Nat), .string (mkB c.text)] := Blk.new n1
  have f1 : FR B w w1 := FR.ext n1.ext
  have z0 : B ≤ w.heap.size := by obtain ⟨_, _, _, P⟩ := h; exact P.size
  have z1 := n1.size
  have T1 := hT.on f1.u z0
  have h1 := h.ext n1.ext
  refine ⟨fun b w' => b = (!c.ref && decide (c.text = [])) ∧ w' = w1, ⟨_, k1.cell 0, fun hb => ⟨_, k1.cell 2, ?_, rfl⟩, fun hb => ⟨by rw [hb]; rfl, rfl⟩⟩, ?_⟩
  · rw [hb, mkB_list, show (⟨#[]⟩ : ByteArray).toList = [] from mkB_list []]
    cases c.text <;> rfl
  rintro _ b w2 ⟨hb, rfl⟩
  obtain ⟨ts, ms, qs, P⟩ := h1
  refine ⟨fun hbt => ?_, fun hbf => ?_⟩
  · rw [hbt] at hb
    have hb' := hb.symm
    rw [Bool.and_eq_true, Bool.not_eq_true', decide_eq_true_eq] at hb'
    have ec : cellT m c = ([45], m) := by unfold cellT; rw [if_pos hb'.1, if_pos hb'.2]
    rw [ec]
    refine ⟨ts, P.hg.cell 0, fun w3 n3 => ?_⟩
    obtain ⟨s', w4, hr, hc4, k4⟩ := P.byte 45 rfl (by omega) n3
    refine ⟨s', w4, hr, hc4, fun w5 s5 => ?_⟩
    obtain ⟨p5, f5⟩ := k4 w5 s5
    exact ⟨p5, f1.trans f5⟩
  refine ⟨_, k1.cell 0, fun hr0 w3 q3 => ?_, fun hr1 => ⟨_, k1.cell 1, fun hz => ?_, fun hnz w3 q3 => ?_⟩⟩
  · have hne : c.text ≠ [] := by
      rw [hbf, hr0] at hb
      intro e
      rw [e] at hb
      cases hb
    have ec : cellT m c = (c.text, m) := by unfold cellT; rw [if_pos hr0, if_neg hne]
    rw [ec]
    have P3 := P.ext q3.ext
    have k3 := k1.ext q3.ext
    obtain ⟨s', w4, hr, u4, hc4, k4⟩ := P3.str c.text (by omega)
    refine ⟨own1 ts, ts, fun w' u => (P3.stays P3.hg (by decide) u).cell 0, _, fun w' u => (P3.stays k3 (by decide) u).cell 2, s', w4, hr, u4, hc4, fun w5 s5 => ?_⟩
    obtain ⟨p5, f5⟩ := k4 w5 s5
    exact ⟨p5, (f1.trans (FR.ext q3.ext)).trans f5⟩
  · have hz' : c.id = 0 := by omega
    have ec : cellT m c = ([110, 111, 110, 101], m) := by unfold cellT; rw [if_neg (by rw [hr1]; decide), if_pos hz']
    rw [ec]
    obtain ⟨s', w4, hr, u4, hc4, k4⟩ := P.str [110, 111, 110, 101] (by simp; omega)
    refine ⟨ts, P.hg.cell 0, s', w4, hr, hc4, fun w5 s5 => ?_⟩
    obtain ⟨p5, f5⟩ := k4 w5 s5
    exact ⟨p5, f1.trans f5⟩
  -- a number
  have hnz' : c.id ≠ 0 := by omega
  have ec : cellT m c = (if (numT m c.id).1 = 0 then [35, 63] else 35 :: Lib.itoa ((numT m c.id).1 : Nat), (numT m c.id).2) := by unfold cellT; rw [if_neg (by rw [hr1]; decide), if_neg hnz']
  rw [ec]
  have P3 := P.ext q3.ext
  have k3 := k1.ext q3.ext
  have f3 : FR B w w3 := f1.trans (FR.ext q3.ext)
  have hmn := P3.mn
  have hgd := P3.hgd
  have look := P3.hr.look2 (mty := 63) (kt := 28) (et := 3) mk_und mk_key (mk_zero w3) (c.id : Nat)
  refine ⟨fun _ => False, some r, fun w' u => (P3.hg.ext u).cell 1, _, fun w' u => (k3.ext u).cell 1, if c.id ∈ m then ((m.idxOf c.id + 1 : Nat) : Int) else 0, decide (c.id ∈ m), w3, ?_, fun w' => w' = w3 ∧ (c.id ∉ m → m.length ≠ 65536), ⟨fun hnm => ⟨ms, P3.hg.cell 2, fun hfull => ?_, fun hnf => ⟨rfl, fun _ => by omega⟩⟩, fun hm => ⟨rfl, fun hh => absurd (of_decide_eq_true hm) hh⟩⟩, ?_⟩
  · by_cases hm : c.id ∈ m
    · rw [nF_some hm] at look
      rw [if_pos hm, decide_eq_true hm]
      exact look
    · rw [nF_none hm] at look
      rw [if_neg hm, decide_eq_false hm]
      exact look
  · have hnm' := of_decide_eq_false hnm
    have en : numT m c.id = (0, m) := by unfold numT; rw [if_neg hnm', if_pos (by omega)]
    rw [en]
    obtain ⟨s', w4, hr, u4, hc4, k4⟩ := P3.str [35, 63] (by simp; omega)
    refine ⟨ts, P3.hg.cell 0, s', w4, hr, hc4, fun w5 s5 => ?_⟩
    obtain ⟨p5, f5⟩ := k4 w5 s5
    exact ⟨p5, f3.trans f5⟩
  rintro _ w4 ⟨rfl, hfull⟩
  refine ⟨fun n w' => n = ((numT m c.id).1 : Nat) ∧ (numT m c.id).1 ≠ 0 ∧ ST w' B g r o txt (numT m c.id).2 A ∧ FR B w w', ⟨fun hnm w5 q5 => ?_, fun hm => ?_⟩, ?_⟩
  · have hnm' := of_decide_eq_false hnm
    have hf := hfull hnm'
    have en : numT m c.id = (m.length + 1, m ++ [c.id]) := by unfold numT; rw [if_neg hnm', if_neg hf]
    have P5 := P3.ext q5.ext
    have k5 := k3.ext q5.ext
    have hlm := hgd.len
    refine ⟨own1 ms, ms, fun w' u => ?_, ((c.id : Nat) : Int), fun w' u => ?_, fun w6 n6 => ⟨n6.ext.mono fun _ _ _ => not_false, ?_⟩⟩
    · exact (P5.hg.upd u (by rintro ⟨p, hp, e⟩; exact own_blk_ne P5.hm P5.hg (by decide) p hp e.symm)).cell 2
    · exact (k5.upd u (by rintro ⟨p, hp, e⟩; exact own_blk_ne P5.hm k5 (by decide) p hp e.symm)).cell 1
    obtain ⟨s', w7, hr, u7, hc7, k7⟩ := P5.met hnm' hc (by omega) n6
    refine ⟨s', w7, hr, u7, hc7, fun w8 s8 => ?_⟩
    obtain ⟨hn8, g8, keep8, k8⟩ := k7 w8 s8
    refine ⟨s', g8.cell 2, fun w9 q9 => ?_⟩
    obtain ⟨w10, hrun, p10, f10⟩ := k8 w9 q9.ext
    have g9 := g8.ext q9.ext
    have k9 := (keep8 _ _ _ k5 (by decide) (by decide)).ext q9.ext
    have e8 : ((s'.n : Nat) : Int) = ((m.length + 1 : Nat) : Int) := by rw [hn8]
    refine ⟨fun _ => False, some r, fun w' u => (g9.ext u).cell 1, _, fun w' u => (k9.ext u).cell 1, w10, by rw [e8]; exact hrun, ?_⟩
    rw [en]
    exact ⟨e8, by dsimp only; omega, p10, (f3.trans (FR.ext q5.ext)).trans f10⟩
  · have hm' := of_decide_eq_true hm
    have en : numT m c.id = (m.idxOf c.id + 1, m) := by unfold numT; rw [if_pos hm']
    rw [en, if_pos hm']
    exact ⟨rfl, by dsimp only; omega, ⟨ts, ms, qs, P3⟩, f3⟩
  rintro _ n w5 ⟨rfl, hn0, ⟨ts5, ms5, qs5, P5⟩, f5⟩
  have hle := (numT_gd hgd hc).2
  refine ⟨ts5, P5.hg.cell 0, fun w6 n6 => ?_⟩
  obtain ⟨s', w7, hr, hc7, k7⟩ := P5.byte 35 rfl (by omega) n6
  refine ⟨s', w7, hr, hc7, fun w8 s8 => ?_⟩
  obtain ⟨⟨ts8, ms8, qs8, P8⟩, f8⟩ := k7 w8 s8
  have f08 := f5.trans f8
  refine ⟨ts8, P8.hg.cell 0, ⟨(P8.num (by omega) (by omega) (by rw [List.length_append, List.length_singleton]; omega) (hT.on f08.u z0)).mono ?_⟩⟩
  rintro e w9 ⟨s9, rfl, u9, c9, k9⟩
  refine ⟨s9, rfl, c9, fun w10 s10 => ?_⟩
  obtain ⟨p10, f10⟩ := k9 w10 s10
  rw [if_neg hn0, show (35 :: Lib.itoa ((numT m c.id).1 : Nat)) = [35] ++ Lib.itoa ((numT m c.id).1 : Nat) from rfl, ← List.append_assoc]
  exact ⟨p10, f08.trans f10⟩
theorem cells_spec {s : Sl} {l : List Cl} (h : ST w B g r o txt m A) (hL : ∀ w', FR B w w' → Rd w' 3 s (clV l)) (hc : Okc l) (hT : TB B w) (hl : txt.length + cellsB l ≤ 60000000000000) :
    Calls Tryd.prog 20 #[.pointer (some ⟨g, 0, none⟩), .slice s.a s.n s.c] w fun e w' => e = .returned (.tuple #[]) ∧ ST w' B g r o (txt ++ (cellsT m l).1) (cellsT m l).2 A ∧ FR B w w' := by
  refine vc_20 _ _ _ _ ?_
  have hsn := (hL w (FR.refl _ _)).lencl
  have z0 : B ≤ w.heap.size := by obtain ⟨_, _, _, P⟩ := h; exact P.size
  simp only [eq_self, false_or, or_false, true_and, and_true, decide_eq_true_eq, decide_eq_false_iff_not, gd_st, gd_sf, exists_eq_left', exists_eq_left, Option.some.injEq, Sl.eta, Nat.reduceLeDiff, Int.reduceLE, Int.reduceLT, Int.reduceEq, Int.reduceNe, Nat.reduceMul, Nat.reduceAdd, Nat.reduceSub, Int.toNat_natCast, beq_iff_eq, bne_iff_ne, beq_eq_false_iff_ne, bne_eq_false_iff_eq, pick_and, pick_or, Bool.and_eq_true, Bool.or_eq_true, Bool.and_eq_false_iff, Bool.or_eq_false_iff, ne_eq, not_false_eq_true, Bool.not_eq_true', Bool.not_eq_false', reduceCtorEq, Nat.le_refl, Nat.zero_mul, Nat.mul_one, Nat.zero_add, Int.reduceToNat, ones, one, add_mk, Decidable.not_not, cond_true, cond_false, true_implies, false_implies, implies_true, Bool.not_true, Bool.not_false]
  have hll : l.length ≤ 60000000000000 := by
    have : ∀ l : List Cl, l.length ≤ cellsB l := fun l => by
      induction l with
      | nil => exact Nat.zero_le _
      | cons a l ih => unfold cellsB at *; rw [List.map_cons, List.sum_cons]; unfold cellB at *; simp only [List.length_cons]; omega
    have := this l; omega
  refine ⟨fun n w' => ∃ (k : Nat) (t' : List UInt8) (m' : List Nat), n = (k : Nat) ∧ k ≤ l.length ∧ ST w' B g r o t' m' A ∧ FR B w w' ∧ t' ++ (cellsT m' (l.drop k)).1 = txt ++ (cellsT m l).1 ∧ (cellsT m' (l.drop k)).2 = (cellsT m l).2 ∧ t'.length + cellsB (l.drop k) ≤ 60000000000000,
    fun n _ => (l.length - n).toNat, ⟨0, txt, m, rfl, Nat.zero_le _, h, FR.refl _ _, rfl, rfl, hl⟩, ?_⟩
  rintro _ n w1 ⟨k, t', m', rfl, hk, h1, f1, e1, e2, hb⟩
  have ek : IntKind.i64.wrap ((k : Int) + 1) = ((k + 1 : Nat) : Int) := by rw [wrap_i64 (by omega) (by omega)]; omega
  rw [ek]
  refine ⟨fun hlt => ?_, fun hge => ?_⟩
  rotate_left
  · have : k = l.length := by omega
    subst this
    rw [List.drop_length] at e1 e2
    simp only [show cellsT m' [] = ([], m') from rfl, List.append_nil] at e1 e2
    rw [← e1, ← e2]
    exact ⟨h1, f1⟩
  obtain ⟨c, hcl⟩ : ∃ c, l[k]? = some c := ⟨_, List.getElem?_eq_getElem (by omega)⟩
  obtain ⟨p, hp, g0, g1, g2⟩ := (hL w1 f1).cl hcl
  have hdc := drop_cons hcl
  rw [hdc] at e1 e2 hb
  have hcB : cellsB (c :: l.drop (k + 1)) = cellB c + cellsB (l.drop (k + 1)) := by unfold cellsB; rw [List.map_cons, List.sum_cons]
  rw [hcB] at hb
  rw [cellsT] at e1 e2
  dsimp only at e1 e2
  have hci := hc c (List.mem_of_getElem? hcl)
  simp only [Int.toNat_natCast]
  refine ⟨by omega, by omega, p, hp, _, _, _, rfl, ⟨g0, g1, g2⟩, fun w2 n2 => ⟨rfl, (Blk.new n2).canSetN 0 3 (by simp), fun w3 s3 => ?_⟩⟩
  have k3 : Blk w3 w1.heap.size 49 [.bool c.ref, .int .u64 (c.id : Nat), .string (mkB c.text)] := s3.blk (Blk.new n2)
  have x3 : Ext w1 w3 := n2.ext.fresh s3.upd (by rintro i rfl; exact Nat.le_refl _)
  obtain ⟨ts, ms, qs, P⟩ := h1.ext x3
  refine ⟨ts, P.hg.cell 0, fun w4 n4 => ?_⟩
  have hcb : 1 ≤ cellB c := by unfold cellB; omega
  obtain ⟨s', w5, hr, hc5, k5⟩ := P.byte 32 rfl (by omega) n4
  refine ⟨s', w5, hr, hc5, fun w6 s6 => ?_⟩
  obtain ⟨p6, f6⟩ := k5 w6 s6
  have kk6 := f6.k _ _ _ k3 (by decide) (by decide) (by decide) (by decide)
  have f06 : FR B w w6 := (f1.trans (FR.ext x3)).trans f6
  refine ⟨_, _, _, rfl, ⟨kk6.cell 0, kk6.cell 1, kk6.cell 2⟩, ⟨(cell_spec p6 c hci (hT.on f06.u z0) (by rw [List.length_append, List.length_singleton]; omega)).mono ?_⟩⟩
  rintro e w7 ⟨rfl, p7, f7⟩
  have hgd' : Gd m' := P.hgd
  have hlen := (cellT_gd hgd' hci).2
  refine ⟨_, rfl, ⟨k + 1, _, _, rfl, by omega, p7, f06.trans f7, ?_, e2, ?_⟩, by omega⟩
  · rw [← e1]
    simp only [List.append_assoc, List.cons_append, List.nil_append]
  · rw [List.length_append, List.length_append, List.length_singleton]; omega
end
end Go.Proofs.YtepmokkhcombmaaDoor.V
