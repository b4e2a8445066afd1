/-
  One step of a script.
-/
import Derived.Test.YtggpomialmpgoaaPq3
namespace Go.Proofs.Ytggpomialmpgoaa.V
open Go Go.RowKit
set_option linter.unusedVariables false
set_option linter.unusedSimpArgs false
set_option maxRecDepth 100000

theorem blk_of_cell {w : World} {p : Addr} {v : Value} (h : w.cell? p = some v) : p.block < w.heap.size := by
  rcases Nat.lt_or_ge p.block w.heap.size with h1 | h1
  · exact h1
  · unfold World.cell? at h
    simp [h1] at h
theorem headD_lt {A : Ar} (ok : A.Ok) (r : Nat) : ((headT A r).getD hd0).r < 18446744073709551616 := by
  cases hh : headT A r with
  | none => decide
  | some h => exact Nat.lt_trans (headT_in ok hh).2.1.lt (by decide)
theorem makeT_opn (A : Ar) (h : Hd) (cs : List Nat) : (makeT A h cs).1.opn = A.opn := by
  unfold makeT
  repeat' split
  all_goals rfl
theorem setWO_opn (A : Ar) (i : Int) (x : Nat) : (setWO A i x).1.opn = A.opn := by
  unfold setWO
  split <;> rfl
theorem mkT_opn (H : Hp) (h : Hd) (cs : List Nat) : (mkT H h cs).A.opn = H.A.opn := by
  unfold mkT
  split <;> exact makeT_opn _ _ _
theorem mkT_fl (H : Hp) (h : Hd) (cs : List Nat) : (mkT H h cs).fl = H.fl := by
  unfold mkT
  split <;> rfl
theorem makeT_lt {A : Ar} (h : A.Ok) (hd : Hd) (cs : List Nat) : (makeT A hd cs).2.1 < 18446744073709551616 := by
  have hx := h.useIn; have hn := h.n
  unfold makeT
  repeat' split
  all_goals (dsimp only; omega)
section
variable {w0 w w' : World} {a : Ad} {H H1 H2 : Hp} {s : Sl} {rs : List Nat} {o : OpV} {cs : List Nat} {ls : List Int} {A' : Ar}
theorem Pq.arena1 (h : Pq w0 w a H1 H2 s rs) (u : Upd (fun k => k = a.b1) w w') (ar : ArW 91 w' a.b1 a.g1 A') (ho : A'.opn = false) : Pq w0 w' a { H1 with A := A' } H2 s rs := by
  have ap := h.h1.ap
  exact h.up1 (u.mono fun i _ hn e => hn (.inl e)) ⟨ar, h.h1.hd.upd u (fun e => ap.1 e), h.h1.mp.upd u (fun e => ap.2.2.2.1 e)⟩ ho
theorem Pq.arena2 (h : Pq w0 w a H1 H2 s rs) (u : Upd (fun k => k = a.b2) w w') (ar : ArW 71 w' a.b2 a.g2 A') (ho : A'.opn = false) : Pq w0 w' a H1 { H2 with A := A' } s rs := by
  have ap := h.h2.ap
  exact h.up2 (u.mono fun i _ hn e => hn (.inl e)) ⟨ar, h.h2.hd.upd u (fun e => ap.1 e), h.h2.fo.upd u (fun q hq e => (ap.2.2.2 q hq).2.1 e)⟩ ho h.fl
/-- one more reference -/
theorem Pq.push (h : Pq w0 w a H1 H2 s rs) {w1 : World} {x : Nat} (hx : x < 18446744073709551616) (hl : rs.length ≤ 20000000000000) (n1 : NewW w (.cells #[.int .u64 (x : Nat)] 35) w1) :
    ∃ s' w2, Runs Try.prog (Builtin.append_ #[38, 38] 38 #[.slice s.a s.n s.c, .slice (some ⟨w.heap.size, 0, none⟩) 1 1]) w1 (.slice s'.a s'.n s'.c) w2 ∧ CanSet w2 (⟨a.P, 2, none⟩ : Addr) 1 ∧
      ∀ w3, SetW w2 (⟨a.P, 2, none⟩ : Addr) [.slice s'.a s'.n s'.c] w3 → Pq w0 w3 a H1 H2 s' (rs ++ [x]) := by
  have h1 := h.ext n1.ext
  have hsn := h.ow.rd.lenu
  have z1 := n1.size
  have lb1 := h.h1.lt; have lb2 := h.h2.lt
  obtain ⟨s', w2, hr, hrn, t2, u2, c2⟩ := h1.ow.append8 (P := Try.prog) tab_ok (t := 38) (ty := 38) (by rfl) (by rfl) (ad := ⟨w.heap.size, 0, none⟩) (v := .int .u64 (x : Nat)) ((Blk.new n1).cell 0) trivial (by omega) h1.xx.size
  have n5 := h1.apart.2.2.2.2
  have hd2 := h1.hd.upd u2 (by rintro ⟨q, hq, e⟩; exact (n5 q hq).1 e.symm)
  refine ⟨s', w2, hr, hd2.canSet 2 (by simp), fun w3 s3 => h1.swap u2 (fun k hk => hk) (by rw [uv_append]; exact t2) (fun y hy => ?_) (fun q hq => ?_) s3⟩
  · rcases List.mem_append.1 hy with hy | hy
    · exact h.lt y hy
    · rw [List.mem_singleton.1 hy]; exact hx
  · rcases c2 q hq with ⟨q', hq', e⟩ | h3
    · rw [← e]; exact h.o q' hq'
    · omega
/-- what a step answers and leaves -/
def StepR (w0 : World) (a : Ad) (rs : List Nat) (e : Ending) (w' : World) : Prop :=
  e = .returned (.bool true) ∧ ∃ (H' : Hp) (s' : Sl) (rs' : List Nat), Pq w0 w' a H' H' s' rs' ∧ (rs'.length ≤ rs.length + 1 ∨ rs'.length ≤ 17592186043904)
theorem same (h : Pq w0 w a H H s rs) {e : Ending} (he : e = .returned (.bool true)) : StepR w0 a rs e w := ⟨he, H, s, rs, h, .inl (by omega)⟩
set_option maxHeartbeats 4000000 in
theorem step_spec (h : Pq w0 w a H H s rs) (ok : o.Ok w0 cs ls) (hl : rs.length ≤ 19000000000000) :
    Calls Try.prog 22 #[.pointer (some ⟨a.P, 0, none⟩), opV o] w (StepR w0 a rs) := by
  refine vc_22 _ _ _ _ _ _ _ _ _ _ _ _ _ _ ?_
  have okI := ok.I
  have lb1 := h.h1.lt; have lb2 := h.h2.lt; have lP := h.hd.lt
  simp only [eq_self, false_or, or_false, true_and, and_true, decide_eq_true_eq, decide_eq_false_iff_not, gd_st, gd_sf, exists_eq_left', exists_eq_left, Option.some.injEq, Sl.eta, Nat.reduceLeDiff, Int.reduceLE, Int.reduceLT, Int.reduceEq, Int.reduceNe, Nat.reduceMul, Nat.reduceAdd, Nat.reduceSub, Int.toNat_natCast, beq_iff_eq, bne_iff_ne, beq_eq_false_iff_ne, bne_eq_false_iff_eq, pick_and, pick_or, Bool.and_eq_true, Bool.or_eq_true, Bool.and_eq_false_iff, Bool.or_eq_false_iff, ne_eq, not_false_eq_true, Bool.not_eq_true', Bool.not_eq_false', reduceCtorEq, Nat.le_refl, Nat.zero_mul, Nat.mul_one, Nat.zero_add, Int.reduceToNat, ones, one, add_mk, Decidable.not_not, cond_true, cond_false, true_implies, false_implies, implies_true, Bool.not_true, Bool.not_false]
  intro w1 n1
  have z1 := n1.size
  have B1 : Blk w1 w.heap.size 67 (opL o) := Blk.new n1
  have h1 := h.ext n1.ext
  refine ⟨_, B1.cell 0, ⟨(pick_spec o.k 16 w1 ok.k.1 ok.k.2 (by decide)).mono ?_⟩⟩
  rintro e w2 ⟨rfl, rfl⟩
  generalize pk o.k 16 = m
  have hl2 : rs.length ≤ 20000000000000 := by omega
  refine ⟨m, rfl, fun _ w3 q3 => ?_, fun _ => ⟨fun _ w' => w' = w2, ⟨fun _ => rfl, fun _ => rfl⟩, ?_⟩⟩
  · have h3 := h1.ext q3.ext
    have B3 := B1.ext q3.ext
    refine ⟨fun _ => False, _, fun w' u => (h3.hd.ext u).cell 0, _, _, _, _, rfl, fun w' u => ⟨(B3.ext u).cell 1, (B3.ext u).cell 2, (B3.ext u).cell 3, (B3.ext u).cell 4⟩, _, fun w' u => (h3.hd.ext u).cell 1, _, _, _, _, rfl, fun w' u => ⟨(B3.ext u).cell 1, (B3.ext u).cell 2, (B3.ext u).cell 3, (B3.ext u).cell 4⟩, ⟨(due_spec h3.h1 o.h).mono ?_⟩⟩
    rintro e w4 ⟨rfl, x4⟩
    have h4 := h3.ext x4
    refine ⟨_, rfl, x4, ⟨(rdue_spec h4.h2 o.h (by have := h.fl; omega)).mono ?_⟩⟩
    rintro e w5 ⟨rfl, x5⟩
    exact ⟨_, rfl, same (h4.ext x5) (rb (by simp))⟩
  rintro _ b w3 rfl
  refine ⟨fun _ => ?_, fun _ => ⟨fun _ => ?_, fun _ => ⟨fun _ => ?_, fun _ => ⟨fun _ => ?_, fun _ => ⟨fun _ => ?_, fun _ => ⟨fun _ => ?_, fun _ => ⟨fun _ => ?_, fun _ => ⟨fun _ => ?_, fun _ => ⟨fun _ => ?_, fun _ => ?_⟩⟩⟩⟩⟩⟩⟩⟩⟩
  · refine ⟨fun sl n w' => ∃ (k : Nat) (qs : List Nat), n = (k : Nat) ∧ k ≤ ls.length ∧ qs.length = k ∧ Tl w' w3.heap.size 35 sl (uv qs) ∧ (∀ y ∈ qs, y < 18446744073709551616) ∧ Ext w3 w', fun _ n _ => (ls.length - n).toNat, ⟨0, [], rfl, Nat.zero_le _, rfl, .of_own (Own.nil _ _ _ _), fun y hy => (by cases hy), Ext.refl _⟩, ?_⟩
    rintro _ sl n w4 ⟨k, qs, rfl, hk, hql, t4, lt4, x4⟩
    have B4 := B1.ext x4
    have h4 := h1.ext x4
    have hln := ok.rl.leni
    have hml := ok.ml
    have hqn := t4.rd.lenu
    have z4 := x4.size
    have ek : IntKind.i64.wrap ((k : Int) + 1) = ((k + 1 : Nat) : Int) := by rw [wrap_i64 (by omega) (by omega)]; omega
    rw [ek]
    refine ⟨o.l, B4.cell 6, fun hlt => ?_, fun hge => ?_⟩
    · obtain ⟨p, y, hp, hy, hc⟩ := (ok.rl.ext h4.xx).intl k (by omega)
      rw [Nat.mul_one] at hc
      have hyb := ok.li y (List.mem_of_getElem? hy)
      refine ⟨o.l, B4.cell 6, by omega, hlt, p, hp, y, by rw [Int.toNat_natCast]; exact hc, ⟨(ref_spec h4 y hyb.1 hyb.2 hl2).mono ?_⟩⟩
      rintro e w5 ⟨rfl, hv, rfl⟩
      refine ⟨_, rfl, fun w6 n6 => ?_⟩
      have z6 := n6.size
      obtain ⟨s', w7, hr7, hrn7, t7, u7, c7⟩ := (t4.ext n6.ext).append8 (P := Try.prog) tab_ok (t := 38) (ty := 38) (by rfl) (by rfl) (ad := ⟨w5.heap.size, 0, none⟩) (v := .int .u64 (refV rs y : Nat)) ((Blk.new n6).cell 0) trivial (by omega) (by omega)
      refine ⟨s', w7, hr7, ⟨k + 1, qs ++ [refV rs y], rfl, by omega, by rw [List.length_append, List.length_singleton, hql], by rw [uv_append]; exact t7, fun z hz => ?_, (x4.trans n6.ext).fresh u7 (by rintro i ⟨q, hq, rfl⟩; exact (t4.base q hq).1)⟩, by dsimp only; omega⟩
      rcases List.mem_append.1 hz with hz | hz
      · exact lt4 z hz
      · rw [List.mem_singleton.1 hz]; exact hv
    · refine ⟨(collects_spec h4 t4.rd (fun _ q hq => by have := t4.base q hq; omega) lt4 (by omega)).mono ?_⟩
      rintro e w5 ⟨rfl, H', s', rs', h5, hl5⟩
      exact ⟨true, rfl, rfl, H', s', rs', h5, by omega⟩
  · refine ⟨_, B1.cell 7, ⟨(ref_spec h1 o.R ok.R.1 ok.R.2 hl2).mono ?_⟩⟩
    rintro e w4 ⟨rfl, hv, rfl⟩
    refine ⟨_, rfl, _, B1.cell 9, _, h1.hd.cell 1, _, rfl, _, h1.h2.hd.cell 0, ⟨(rheader_spec h1.h2.ar hv).mono ?_⟩⟩
    rintro e w5 ⟨rfl, x5⟩
    refine ⟨_, _, _, _, _, rfl, fun w6 n6 => ⟨rfl, HB.can n6, fun w7 s7 => ?_⟩⟩
    obtain ⟨hb7, x57⟩ := HB.made (h := (headT H.A (refV rs o.R)).getD hd0) n6 s7
    have x17 := x5.trans x57
    have B7 := B1.ext x17
    refine ⟨fun _ w' => Ext w7 w', ⟨_, B7.cell 8, fun _ => ⟨_, B7.cell 8, _, hb7.cell 2, fun _ => ⟨_, _, _, _, rfl, ⟨hb7.cell 0, hb7.cell 1, hb7.cell 2, hb7.cell 3⟩, _, B7.cell 8, ⟨(refs_any ((headT H.A (refV rs o.R)).getD hd0) o.I (headD_lt h1.h2.ar.ok _) w7).mono ?_⟩⟩, fun _ => Ext.refl _⟩, fun _ => Ext.refl _⟩, ?_⟩
    · rintro e w8 ⟨bb, rfl, x8⟩
      exact ⟨bb, rfl, x8⟩
    rintro _ b w8 x8
    have x18 := x17.trans x8
    have B8 := B1.ext x18
    refine ⟨fun n w' => ∃ v : Nat, n = (v : Nat) ∧ v < 18446744073709551616 ∧ Ext w8 w', ⟨fun _ => ⟨_, B8.cell 10, fun _ => ?_, fun _ => ⟨o.x, rfl, ok.x, Ext.refl _⟩⟩, fun _ => ⟨o.x, rfl, ok.x, Ext.refl _⟩⟩, ?_⟩
    · have hx := ok.x
      have et : (o.x : Int).tmod 1000 = ((o.x % 1000 : Nat) : Int) := by rw [Int.tmod_eq_emod_of_nonneg (by omega)]; omega
      have ew : IntKind.i64.wrap ((o.x : Int).tmod 1000) = ((o.x % 1000 : Nat) : Int) := by rw [et]; exact wrap_i64 (by omega) (by omega)
      rw [ew]
      refine ⟨(ref_spec (h1.ext x18) ((o.x % 1000 : Nat) : Int) (by omega) (by omega) hl2).mono ?_⟩
      rintro e w9 ⟨rfl, hv9, rfl⟩
      exact ⟨_, rfl, _, rfl, hv9, Ext.refl _⟩
    rintro _ n w9 ⟨v, rfl, hv9, x9⟩ w10 q10
    have x1 := (x18.trans x9).trans q10.ext
    have h10 := h1.ext x1
    have B10 := B1.ext x1
    obtain ⟨⟨p1, p2, p3, p4, p5, p6⟩, ⟨m1, m2, m3, m4, m5, m6, m7, m8⟩, n3, n4, n5⟩ := h10.apart
    have ap := h10.h1.ap
    have hne := h10.ne
    refine ⟨fun k => k = a.b1, _, fun w' u => (h10.hd.upd u p2).cell 0, _, rfl, _, fun w' u => (h10.h1.hd.upd u ap.1).cell 0, _, fun w' u => (B10.upd u (by omega)).cell 8, _, fun w' u => (h10.hd.upd u p2).cell 1, _, rfl, _, fun w' u => (h10.h2.hd.upd u m4.symm).cell 0, _, fun w' u => (B10.upd u (by omega)).cell 8, ⟨(SetCell_spec h10.h1.ar hv okI.2 hv9).mono ?_⟩⟩
    rintro e w11 ⟨rfl, a11, u11⟩
    have h11 := h10.arena1 u11 a11 ((setO_same _ _ _ _).opn.trans h10.o1)
    refine ⟨_, rfl, u11, ⟨(rSetCell_spec h11.h2.ar hv okI.2 hv9).mono ?_⟩⟩
    rintro e w12 ⟨rfl, a12, u12⟩
    exact ⟨_, rfl, same (h11.arena2 u12 a12 ((setO_same _ _ _ _).opn.trans h11.o2)) (rb (by simp))⟩
  · intro w4 q4
    have h4 := h1.ext q4.ext
    have B4 := B1.ext q4.ext
    refine ⟨fun _ => False, _, fun w' u => (h4.hd.ext u).cell 0, _, rfl, _, fun w' u => (h4.h1.hd.ext u).cell 0, _, fun w' u => (B4.ext u).cell 7, _, fun w' u => (B4.ext u).cell 8, ⟨(ref_spec h4 o.R ok.R.1 ok.R.2 hl2).mono ?_⟩⟩
    rintro e w5 ⟨rfl, hv, rfl⟩
    refine ⟨_, rfl, Ext.refl _, ⟨(Cell_spec h4.h1.ar hv okI.2).mono ?_⟩⟩
    rintro e w6 ⟨rfl, x6⟩
    refine ⟨_, _, rfl, fun w7 q7 => ?_⟩
    have h7 := h4.ext (x6.trans q7.ext)
    have B7 := B4.ext (x6.trans q7.ext)
    refine ⟨fun _ => False, _, fun w' u => (h7.hd.ext u).cell 1, _, rfl, _, fun w' u => (h7.h2.hd.ext u).cell 0, _, fun w' u => (B7.ext u).cell 7, _, fun w' u => (B7.ext u).cell 8, ⟨(ref_spec h7 o.R ok.R.1 ok.R.2 hl2).mono ?_⟩⟩
    rintro e w8 ⟨rfl, hv8, rfl⟩
    refine ⟨_, rfl, Ext.refl _, ⟨(rCell_spec h7.h2.ar hv okI.2).mono ?_⟩⟩
    rintro e w9 ⟨rfl, x9⟩
    exact ⟨_, _, rfl, fun _ => same (h7.ext x9) (rb (by simp)), fun hne => absurd rfl hne⟩
  · obtain ⟨r, hr⟩ : ∃ r, r = refV rs o.R := ⟨_, rfl⟩
    refine ⟨fun ad b w' => ∃ g, ad = some ⟨g, 0, none⟩ ∧ b = (headT H.A r).isSome ∧ HB w' g ((headT H.A r).getD hd0) ∧ Ext w3 w', fun w4 q4 => ?_, ?_⟩
    · have h4 := h1.ext q4.ext
      have B4 := B1.ext q4.ext
      have z4 := q4.ext.size
      obtain ⟨lx, lb, lg, lr⟩ := h4.h1.lt
      have lPP := h4.hd.lt
      have ly := h4.h2.lt
      refine ⟨fun k => w4.heap.size ≤ k, _, fun w' u => (h4.hd.upd u (by omega)).cell 0, _, rfl, _, fun w' u => (h4.h1.hd.upd u (by omega)).cell 0, _, fun w' u => (B4.upd u (by omega)).cell 7, ⟨(ref_spec h4 o.R ok.R.1 ok.R.2 hl2).mono ?_⟩, fun w5 n5 => ⟨n5.ext.toS, ⟨(ref_spec (h4.ext n5.ext) o.R ok.R.1 ok.R.2 hl2).mono ?_⟩⟩⟩
      · rintro e w5 ⟨rfl, hv, rfl⟩
        rw [← hr] at hv ⊢
        refine ⟨_, rfl, Upd.refl _ _, ⟨(header_spec h4.h1.ar hv).mono ?_⟩, fun w6 n6 => ⟨n6.ext.toS, ⟨(header_spec (h4.ext n6.ext).h1.ar hv).mono ?_⟩⟩⟩
        · rintro e w6 ⟨rfl, x6⟩
          have z6 := x6.size
          refine ⟨_, _, _, _, _, rfl, x6.toS, fun w7 n7 => ⟨n7.ext.toS, rfl, HB.can n7, fun w8 s8 => ⟨s8.upd.mono fun i _ hn e => hn (by dsimp only at e; omega), _, rfl, rfl, ?_⟩⟩⟩
          obtain ⟨k8, y8⟩ := HB.made (h := (headT H.A r).getD hd0) n7 s8
          exact ⟨k8, (q4.ext.trans x6).trans y8⟩
        · rintro e w7 ⟨rfl, x7⟩
          have b7 := (Blk.new n6).ext x7
          refine ⟨_, _, _, _, _, rfl, x7.toS, rfl, b7.canSetN 0 4 (by simp), fun w8 s8 => ⟨s8.upd.mono fun i _ hn e => hn (by dsimp only at e; omega), _, rfl, rfl, HB.set b7 s8, ?_⟩⟩
          exact (q4.ext.trans (n6.ext.trans x7)).fresh s8.upd (by rintro i rfl; dsimp only; omega)
      · rintro e w6 ⟨rfl, hv, rfl⟩
        rw [← hr] at hv ⊢
        have z5 := n5.size
        refine ⟨_, rfl, Upd.refl _ _, ⟨(header_spec (h4.ext n5.ext).h1.ar hv).mono ?_⟩⟩
        rintro e w7 ⟨rfl, x7⟩
        have b7 := (Blk.new n5).ext x7
        refine ⟨_, _, _, _, _, rfl, x7.toS, rfl, b7.canSetN 0 4 (by simp), fun w8 s8 => ⟨s8.upd.mono fun i _ hn e => hn (by dsimp only at e; omega), _, rfl, rfl, HB.set b7 s8, ?_⟩⟩
        exact (q4.ext.trans (n5.ext.trans x7)).fresh s8.upd (by rintro i rfl; dsimp only; omega)
    rintro _ ad b w4 ⟨g, rfl, rfl, hb4, x4⟩
    refine ⟨fun ad b w' => ∃ g', ad = some ⟨g', 0, none⟩ ∧ b = (headT H.A r).isSome ∧ HB w' g' ((headT H.A r).getD hd0) ∧ Ext w4 w', fun w5 q5 => ?_, ?_⟩
    · have h6 := (h1.ext x4).ext q5.ext
      have B6 := (B1.ext x4).ext q5.ext
      have z4 := x4.size
      have z5 := q5.ext.size
      obtain ⟨lx, lb, lg⟩ := h6.h2.lt
      have lPP := h6.hd.lt
      refine ⟨fun k => w5.heap.size ≤ k, _, fun w' u => (h6.hd.upd u (by omega)).cell 1, _, rfl, _, fun w' u => (h6.h2.hd.upd u (by omega)).cell 0, _, fun w' u => (B6.upd u (by omega)).cell 7, ⟨(ref_spec h6 o.R ok.R.1 ok.R.2 hl2).mono ?_⟩, fun w6 n6 => ⟨n6.ext.toS, ⟨(ref_spec (h6.ext n6.ext) o.R ok.R.1 ok.R.2 hl2).mono ?_⟩⟩⟩
      · rintro e w6 ⟨rfl, hv, rfl⟩
        rw [← hr] at hv ⊢
        refine ⟨_, rfl, Upd.refl _ _, ⟨(rheader_spec h6.h2.ar hv).mono ?_⟩, fun w7 n7 => ⟨n7.ext.toS, ⟨(rheader_spec (h6.ext n7.ext).h2.ar hv).mono ?_⟩⟩⟩
        · rintro e w7 ⟨rfl, x7⟩
          have z7 := x7.size
          refine ⟨_, _, _, _, _, rfl, x7.toS, fun w8 n8 => ⟨n8.ext.toS, rfl, HB.can n8, fun w9 s9 => ⟨s9.upd.mono fun i _ hn e => hn (by dsimp only at e; omega), _, rfl, rfl, ?_⟩⟩⟩
          obtain ⟨k8, y8⟩ := HB.made (h := (headT H.A r).getD hd0) n8 s9
          exact ⟨k8, (q5.ext.trans x7).trans y8⟩
        · rintro e w8 ⟨rfl, x8⟩
          have b7 := (Blk.new n7).ext x8
          refine ⟨_, _, _, _, _, rfl, x8.toS, rfl, b7.canSetN 0 4 (by simp), fun w9 s9 => ⟨s9.upd.mono fun i _ hn e => hn (by dsimp only at e; omega), _, rfl, rfl, HB.set b7 s9, ?_⟩⟩
          exact (q5.ext.trans (n7.ext.trans x8)).fresh s9.upd (by rintro i rfl; dsimp only; omega)
      · rintro e w7 ⟨rfl, hv, rfl⟩
        rw [← hr] at hv ⊢
        have z6 := n6.size
        refine ⟨_, rfl, Upd.refl _ _, ⟨(rheader_spec (h6.ext n6.ext).h2.ar hv).mono ?_⟩⟩
        rintro e w8 ⟨rfl, x8⟩
        have b7 := (Blk.new n6).ext x8
        refine ⟨_, _, _, _, _, rfl, x8.toS, rfl, b7.canSetN 0 4 (by simp), fun w9 s9 => ⟨s9.upd.mono fun i _ hn e => hn (by dsimp only at e; omega), _, rfl, rfl, HB.set b7 s9, ?_⟩⟩
        exact (q5.ext.trans (n6.ext.trans x8)).fresh s9.upd (by rintro i rfl; dsimp only; omega)
    rintro _ ad b w5 ⟨g', rfl, rfl, hb5, x5⟩
    have hb := hb4.ext x5
    have h5 := h1.ext (x4.trans x5)
    exact ⟨_, rfl, _, _, _, _, rfl, ⟨hb.cell 0, hb.cell 1, hb.cell 2, hb.cell 3⟩, _, rfl, _, _, _, _, rfl, ⟨hb5.cell 0, hb5.cell 1, hb5.cell 2, hb5.cell 3⟩, fun _ => same h5 (rb (by simp)), fun hne => by simp at hne⟩
  · refine ⟨_, h1.hd.cell 0, _, rfl, _, h1.h1.hd.cell 0, ⟨(check_spec h1.h1.ar).mono ?_⟩⟩
    rintro e w4 ⟨rfl, x4⟩
    have h4 := h1.ext x4
    refine ⟨_, _, rfl, _, h4.hd.cell 1, _, rfl, _, h4.h2.hd.cell 0, ⟨(rcheck_spec h4.h2.ar).mono ?_⟩⟩
    rintro e w5 ⟨rfl, x5⟩
    exact ⟨_, _, rfl, fun _ => same (h4.ext x5) (rb (by simp)), fun hne => absurd rfl hne⟩
  · intro w4 q4
    have h4 := h1.ext q4.ext
    have hi := h4.h1.ar.ok.use1; have hi2 := h4.h1.ar.ok.n
    refine ⟨fun _ => False, _, fun w' u => (h4.hd.ext u).cell 0, _, rfl, _, fun w' u => (h4.h1.hd.ext u).cell 0, _, fun w' u => (h4.hd.ext u).cell 1, _, rfl, _, fun w' u => (h4.h2.hd.ext u).cell 0, ⟨(used_spec h4.h1.ar).mono ?_⟩⟩
    rintro e w6 ⟨rfl, q6⟩
    have h6 := h4.ext q6.ext
    refine ⟨_, rfl, q6.ext, ⟨(rused_spec h6.h2.ar).mono ?_⟩⟩
    rintro e w7 ⟨rfl, q7⟩
    have h7 := h6.ext q7.ext
    refine ⟨_, rfl, fun _ => ⟨_, fun w' u => (h7.hd.ext u).cell 0, _, rfl, _, fun w' u => (h7.h1.hd.ext u).cell 0, _, fun w' u => (h7.hd.ext u).cell 1, _, rfl, _, fun w' u => (h7.h2.hd.ext u).cell 0, _, rfl, _, fun w' u => (h7.h2.ar.hd.ext u).cell 0, _, fun w' u => (h7.hd.ext u).cell 1, _, rfl, _, fun w' u => (h7.h2.hd.ext u).cell 0, ⟨(left_spec h7.h1.ar).mono ?_⟩⟩, fun hne => absurd rfl hne⟩
    rintro e w8 ⟨rfl, q8⟩
    have h8 := h7.ext q8.ext
    refine ⟨_, rfl, q8.ext, ⟨(rused_spec h8.h2.ar).mono ?_⟩⟩
    rintro e w9 ⟨rfl, q9⟩
    have h9 := h8.ext q9.ext
    have ew : ((H.A.n - (H.A.use.e - H.A.use.f) : Nat) : Int) = IntKind.i64.wrap ((H.A.n : Int) - ((H.A.use.e - H.A.use.f : Nat) : Int)) := by rw [wrap_i64 (by omega) (by omega)]; omega
    refine ⟨_, rfl, q9.ext, fun _ => ⟨_, fun w' u => (h9.hd.ext u).cell 0, _, rfl, _, fun w' u => (h9.h1.hd.ext u).cell 0, _, fun w' u => (h9.hd.ext u).cell 1, _, rfl, _, fun w' u => (h9.h2.hd.ext u).cell 0, _, rfl, _, fun w' u => (h9.h2.ar.hd.ext u).cell 0, ⟨(words_spec h9.h1.ar).mono ?_⟩⟩, fun hne => absurd ew hne⟩
    rintro e w10 ⟨rfl, rfl⟩
    exact ⟨_, rfl, Ext.refl _, same h9 (rb (by simp))⟩
  · intro w4 q4
    have h4 := h1.ext q4.ext
    have B4 := B1.ext q4.ext
    obtain ⟨⟨p1, p2, p3, p4, p5, p6⟩, ⟨m1, m2, m3, m4, m5, m6, m7, m8⟩, n3, n4, n5⟩ := h4.apart
    have ap := h4.h1.ap
    refine ⟨fun k => k = a.b1, _, fun w' u => (h4.hd.upd u p2).cell 0, _, rfl, _, fun w' u => (h4.h1.hd.upd u ap.1).cell 0, _, fun w' u => (B4.upd u (by omega)).cell 8, _, fun w' u => (B4.upd u (by omega)).cell 9, _, fun w' u => (h4.hd.upd u p2).cell 1, _, rfl, _, fun w' u => (h4.h2.hd.upd u m4.symm).cell 0, _, fun w' u => (B4.upd u (by omega)).cell 8, _, fun w' u => (B4.upd u (by omega)).cell 9, ⟨(setWord_spec h4.h1.ar o.I ok.x).mono ?_⟩⟩
    rintro e w5 ⟨rfl, a5, u5⟩
    have h5 := h4.arena1 u5 a5 ((setWO_opn _ _ _).trans h4.o1)
    refine ⟨_, rfl, u5, ⟨(rsetWord_spec h5.h2.ar o.I ok.x).mono ?_⟩⟩
    rintro e w6 ⟨rfl, a6, u6⟩
    exact ⟨_, rfl, same (h5.arena2 u6 a6 ((setWO_opn _ _ _).trans h5.o2)) (rb (by simp))⟩
  · have hmc := ok.m
    refine ⟨o.c, B1.cell 5, ⟨(collects_spec h1 (ok.rd.ext h1.xx) (fun hn q hq => ?_) ok.lt ok.m).mono ?_⟩⟩
    · obtain ⟨p, y, hp, hy, hc⟩ := ok.rd.word 0 hn
      have hlo := h1.lo
      have hpb : p.block < w0.heap.size := by
        have hc' := hc
        unfold World.cell? at hc'
        rw [← block_add p (0 * 1)]
        exact blk_of_cell hc
      rw [hq] at hp; injection hp with hp; subst hp
      have := h1.xx.size
      omega
    · rintro e w5 ⟨rfl, H', s', rs', h5, hl5⟩
      exact ⟨true, rfl, rfl, H', s', rs', h5, by omega⟩
  · intro w4 q4
    have h4 := h1.ext q4.ext
    refine ⟨fun _ => False, _, fun w' u => (h4.hd.ext u).cell 0, _, fun w' u => (h4.hd.ext u).cell 1, _, rfl, _, _, _, rfl, fun w' u => ⟨(h4.h2.hd.ext u).cell 4, (h4.h2.hd.ext u).cell 5, (h4.h2.hd.ext u).cell 6⟩, ⟨(stats_spec h4.h1).mono ?_⟩⟩
    rintro e w5 ⟨rfl, x5⟩
    exact ⟨_, _, _, rfl, x5, same (h4.ext x5) (rb (by simp))⟩
  · refine ⟨_, _, _, _, _, o.c, o.l, _, _, _, _, rfl, ⟨B1.cell 0, B1.cell 1, B1.cell 2, B1.cell 3, B1.cell 4, B1.cell 5, B1.cell 6, B1.cell 7, B1.cell 8, B1.cell 9, B1.cell 10⟩, ⟨(cells_spec h1 ok hl2).mono ?_⟩⟩
    rintro e w4 ⟨sl, cs', rfl, o4, hcl, lt4, x4⟩
    refine ⟨sl, rfl, fun w5 q5 => ?_⟩
    have x15 := x4.trans q5.ext
    have z15 := x15.size
    have h5 := h1.ext x15
    have B5 := B1.ext x15
    have o5 := o4.ext q5.ext
    have b5 := o5.base
    have hmc := ok.m
    refine ⟨fun _ => False, _, fun w' u => (h5.hd.ext u).cell 0, _, _, _, _, rfl, fun w' u => ⟨(B5.ext u).cell 1, (B5.ext u).cell 2, (B5.ext u).cell 3, (B5.ext u).cell 4⟩, ⟨(makeH_spec h5.h1 o.h o5.rd (fun q hq e => by have := b5 q hq; omega) (by omega) lt4).mono ?_⟩⟩
    rintro e w6 ⟨rfl, g6, u6⟩
    have h6 := h5.up1 (u6.mono fun i _ hn e => hn e) g6 ((mkT_opn _ _ _).trans h5.o1)
    have B6 := B5.upd u6 (nor3 (by omega) (by omega) (by omega))
    have o6 := o5.upd u6 (fun q hq => by have := b5 q hq; exact nor3 (by omega) (by omega) (by omega))
    refine ⟨_, _, rfl, fun w7 q7 => ?_⟩
    have h7 := h6.ext q7.ext
    have B7 := B6.ext q7.ext
    have o7 := o6.ext q7.ext
    refine ⟨fun _ => False, _, fun w' u => (h7.hd.ext u).cell 1, _, _, _, _, rfl, fun w' u => ⟨(B7.ext u).cell 1, (B7.ext u).cell 2, (B7.ext u).cell 3, (B7.ext u).cell 4⟩, ⟨(rmakeH_spec h7.h2 o.h o7.rd (by omega) lt4).mono ?_⟩⟩
    rintro e w8 ⟨rfl, g8, u8⟩
    have h8 := h7.up2 (u8.mono fun i _ hn e => hn e) g8 ((mkT_opn _ _ _).trans h7.o2) (by rw [mkT_fl]; exact h7.fl)
    refine ⟨_, _, rfl, fun _ => ⟨s, h8.hd.cell 2, fun w9 n9 => ?_⟩, fun _ => ⟨fun _ => same h8 (rb (by simp)), fun hne => absurd rfl hne⟩⟩
    obtain ⟨s', w10, hr10, can10, h10⟩ := h8.push (makeT_lt h5.h1.ar.ok o.h cs') hl2 n9
    refine ⟨s', w10, hr10, can10, fun w11 s11 => ⟨fun _ => ⟨rb (by simp), _, _, _, h10 w11 s11, .inl (by rw [List.length_append]; exact Nat.le_refl _)⟩, fun hne => absurd rfl hne⟩⟩
end
end Go.Proofs.Ytggpomialmpgoaa.V
