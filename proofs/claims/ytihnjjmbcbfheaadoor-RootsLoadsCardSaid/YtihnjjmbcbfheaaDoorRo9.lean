/-
  RootsLoads: its walk.
-/
import Derived.Test.YtihnjjmbcbfheaaDoorRo8
import Derived.Test.YtihnjjmbcbfheaaDoorEr2
import Derived.Test.YtihnjjmbcbfheaaDoorRow
namespace Go.Proofs.YtihnjjmbcbfheaaDoor.V
open Go Go.RowKit
set_option linter.unusedVariables false
set_option linter.unusedSimpArgs false
set_option linter.unusedSectionVars false
set_option maxRecDepth 100000

/-- the library's variable stands: the handle of the type error -/
def ErrL (w : World) : Prop := w.cell? ⟨0, 0, none⟩ = some (.iface 91 (.agg #[.pointer (some ⟨1, 26, none⟩)]))
section
variable {w w' : World} {S : Nat → Prop}
theorem ErrL.upd (h : ErrL w) (u : Upd S w w') (hS : ¬ S 0) : ErrL w' := Upd.cell u h hS
theorem ErrL.ext (h : ErrL w) (u : Ext w w') : ErrL w' := h.upd u not_false
theorem as_spec {c p : Nat} (G : ErrL w) (k : Blk w c 33 [.pointer none]) :
    Calls Tryd.prog 7 #[.iface 33 (.pointer (some ⟨p, 0, none⟩)), .iface 35 (.pointer (some ⟨c, 0, none⟩))] w fun e w' => e = .returned (.bool true) ∧ Blk w' c 33 [.pointer (some ⟨p, 0, none⟩)] ∧ Upd (fun i => i = c) w w' := by
  refine (as_hit ⟨p, 0, none⟩ ⟨c, 0, none⟩ (.pointer none) w G (k.cell 0) (k.frozen 0)).mono ?_
  rintro e w' ⟨rfl, rfl⟩
  have new : ∀ (w : World) (o : Obj), NewW w o (w.alloc o) := fun w o => rfl
  have x := (((new w _).ext.trans (new _ _).ext).trans (new _ _).ext).trans (new ((((w.alloc (.cells #[.pointer (some ⟨c, 0, none⟩)] 35)).alloc (.cells #[.pointer (some ⟨1, 35, none⟩), .pointer (some ⟨w.heap.size, 0, none⟩), .int .u64 150] 67)).alloc (.cells #[.pointer (some ⟨1, 35, none⟩), .pointer (some ⟨w.heap.size, 0, none⟩), .int .u64 150] 67))) (.cells #[.pointer (some ⟨p, 0, none⟩)] 33)).ext
  have k4 := k.ext x
  have st : SetW _ ⟨c, 0, none⟩ [.pointer (some ⟨p, 0, none⟩)] (((((w.alloc (.cells #[.pointer (some ⟨c, 0, none⟩)] 35)).alloc (.cells #[.pointer (some ⟨1, 35, none⟩), .pointer (some ⟨w.heap.size, 0, none⟩), .int .u64 150] 67)).alloc (.cells #[.pointer (some ⟨1, 35, none⟩), .pointer (some ⟨w.heap.size, 0, none⟩), .int .u64 150] 67)).alloc (.cells #[.pointer (some ⟨p, 0, none⟩)] 33)).setCell ⟨c, 0, none⟩ (.pointer (some ⟨p, 0, none⟩))) := rfl
  exact ⟨rfl, st.blk1 k4, x.upd st.upd⟩
theorem load_ex : loadT [1, 1, 2, 5, 3] = ([[⟨2, 5, 3⟩]], ⟨5, 0, 0⟩) := by kernel_rfl
theorem shown_spec : Calls Tryd.prog 4 #[] w fun e w' => e = .returned (.bool true) ∧ Ext w w' := by
  refine vc_4 _ _ ?_
  simp only [eq_self, false_or, or_false, true_and, and_true, decide_eq_true_eq, decide_eq_false_iff_not, gd_st, gd_sf, exists_eq_left', exists_eq_left, Option.some.injEq, Sl.eta, Nat.reduceLeDiff, Int.reduceLE, Int.reduceLT, Int.reduceEq, Int.reduceNe, Nat.reduceMul, Nat.reduceAdd, Nat.reduceSub, Int.toNat_natCast, beq_iff_eq, bne_iff_ne, beq_eq_false_iff_ne, bne_eq_false_iff_eq, pick_and, pick_or, Bool.and_eq_true, Bool.or_eq_true, Bool.and_eq_false_iff, Bool.or_eq_false_iff, ne_eq, not_false_eq_true, Bool.not_eq_true', Bool.not_eq_false', reduceCtorEq, Nat.le_refl, Nat.zero_mul, Nat.mul_one, Nat.zero_add, Int.reduceToNat, ones, one, add_mk, Decidable.not_not, cond_true, cond_false, true_implies, false_implies, implies_true, Bool.not_true, Bool.not_false]
  intro w1 n1
  have hr : Rd w1 1 ⟨some ⟨w.heap.size, 0, none⟩, 5, 5⟩ (bv [1, 1, 2, 5, 3]) := (Blk.new n1).rd (z := 1) (o := 0) (n := 5) (c := 5) (by simp)
  refine ⟨(load_spec hr (by dsimp only; omega) (by simp)).mono ?_⟩
  rintro e w2 ⟨x2, ⟨hne, _⟩ | ⟨h0, t, r, rfl, T2, ht, hr2⟩⟩
  · rw [load_ex] at hne; exact absurd rfl hne
  rw [load_ex] at T2
  have x02 := n1.ext.trans x2
  refine ⟨_, _, rfl, ⟨.inl rfl⟩, fun _ => ⟨fun h => (by cases h), fun _ => ⟨(tat_spec T2 0 2).mono ?_⟩⟩, fun h => (by cases h)⟩
  rintro e w3 ⟨rfl, x3⟩
  have ef : tblF 0 [[⟨2, 5, 3⟩]] f0 0 2 = some (5, 3) := by kernel_rfl
  rw [ef]
  refine ⟨_, _, _, rfl, fun w4 n4 => ⟨rfl, (Blk.new n4).canSetN 0 2 (by simp), fun w5 s5 => ?_⟩⟩
  have k5 := s5.blk (Blk.new n4)
  exact ⟨fun _ => ⟨_, _, rfl, ⟨k5.cell 0, k5.cell 1⟩, by simp, (x02.trans x3).trans (n4.ext.fresh s5.upd (by rintro i rfl; exact Nat.le_refl _))⟩, fun h => (by cases h)⟩
theorem DTO.upd {B : Nat} {s : Sl} {T : List (List Pl)} (h : DTO w B s T) (u : Upd S w w') (hS : ∀ k, S k → k < B) : DTO w' B s T := by
  obtain ⟨q, h1, h2, h3⟩ := h
  have off : ∀ {e z : Nat} {a : Sl} {xs : List Value}, Own w B e z a xs → a.off S := fun ho p hp hs => by
    have := (ho.base p hp).1
    have := hS _ hs
    omega
  exact ⟨q, h1.upd u (off h1), h2, fun k a l ha hl => (h3 k a l ha hl).upd u (off (h3 k a l ha hl))⟩
end
set_option maxHeartbeats 4000000 in
theorem rootsloads_walk (w : World) (G : ErrL w) (v0 v1 v2 : Value) (x0 : (Par.one (.sl 1 (.cons (.int .u8) (.nil)))).T) (x1 x2 : (Par.one (.int .i64)).T) (h0 : (Par.one (.sl 1 (.cons (.int .u8) (.nil)))).Is w v0 x0) (h1 : (Par.one (.int .i64)).Is w v1 x1) (h2 : (Par.one (.int .i64)).Is w v2 x2) :
    Calls Tryd.prog 3 #[v0, v1, v2] w fun e w' => e = .returned (.bool true) ∧ Ext w w' := by
  obtain ⟨rfl, hcap, hbl, -, bs, hr, h8⟩ := is_bytes h0
  obtain ⟨rfl, -⟩ := h1
  obtain ⟨rfl, -⟩ := h2
  generalize x0.1 = b at *
  obtain ⟨fn, e1⟩ : ∃ c : Int, @Eq Int x1 c := ⟨x1, rfl⟩
  obtain ⟨at_, e2⟩ : ∃ c : Int, @Eq Int x2 c := ⟨x2, rfl⟩
  rw [e1, e2]
  clear e1 e2 h0
  have hbn := hr.lenb
  refine vc_3 _ _ _ _ _ ?_
  simp only [eq_self, false_or, or_false, true_and, and_true, decide_eq_true_eq, decide_eq_false_iff_not, gd_st, gd_sf, exists_eq_left', exists_eq_left, Option.some.injEq, Sl.eta, Nat.reduceLeDiff, Int.reduceLE, Int.reduceLT, Int.reduceEq, Int.reduceNe, Nat.reduceMul, Nat.reduceAdd, Nat.reduceSub, Int.toNat_natCast, beq_iff_eq, bne_iff_ne, beq_eq_false_iff_ne, bne_eq_false_iff_eq, pick_and, pick_or, Bool.and_eq_true, Bool.or_eq_true, Bool.and_eq_false_iff, Bool.or_eq_false_iff, ne_eq, not_false_eq_true, Bool.not_eq_true', Bool.not_eq_false', reduceCtorEq, Nat.le_refl, Nat.zero_mul, Nat.mul_one, Nat.zero_add, Int.reduceToNat, ones, one, add_mk, Decidable.not_not, cond_true, cond_false, true_implies, false_implies, implies_true, Bool.not_true, Bool.not_false]
  refine ⟨shown_spec.mono ?_⟩
  rintro e w1 ⟨rfl, y1⟩
  refine ⟨_, rfl, fun s w' => ∃ xs : List Nat, Rd w1 1 s (bv xs) ∧ xs.length ≤ 3000 ∧ (∀ x ∈ xs, x < 256) ∧ s.n ≤ s.c ∧ w' = w1, ⟨fun hgt => ⟨by omega, bs.take 3000, ?_, by rw [List.length_take]; omega, fun x hx => h8 x (List.mem_of_mem_take hx), by dsimp only; omega, rfl⟩, fun hle => ⟨bs, hr.ext y1, by omega, h8, hcap, rfl⟩⟩, ?_⟩
  · rw [cut0]
    have := (hr.ext y1).take (k := 3000) (c := b.c) (by omega)
    unfold bv at this ⊢
    rw [List.map_take]
    exact this
  rintro _ s w1' ⟨xs, hs, hxl, hx8, hsc, hw1⟩
  rw [hw1]
  clear hr h8 hcap hbl
  have hsn := hs.lenb
  intro w2 n2
  have o2 : Own w2 w1.heap.size 5 1 ⟨some ⟨w1.heap.size, 0, none⟩, 0, 0⟩ (bv []) := Own.lit (cs := []) n2 (Nat.le_refl _) rfl (by omega)
  have z2 := n2.size
  obtain ⟨s1, w3, hr3, hn3, o3, u3, _⟩ := o2.append (t := 22) (ty := 22) tab_ok rfl rfl (by decide) (hs.ext n2.ext) (bv_ones xs) (by dsimp only; omega) (by dsimp only; omega) (by omega)
  rw [← bv_append, List.nil_append] at o3
  have y3 : Ext w1 w3 := n2.ext.fresh u3 (by rintro i ⟨p, hp, rfl⟩; exact (o2.base p hp).1)
  refine ⟨s1, w3, hr3, fun w4 n4 => ?_⟩
  have z3 := y3.size
  have z4 := n4.size
  have hn3 : s1.n = s.n := by rw [hn3]; exact Nat.zero_add _
  obtain ⟨s2, w5, hr5, hn5, o5, u5, _⟩ := (o3.ext n4.ext).append (t := 22) (ty := 22) tab_ok rfl rfl (by decide) (own_one n4) (by simp [one]) (by dsimp only; omega) (by dsimp only; omega) (by omega)
  have hn5 : s2.n = s.n + 1 := by rw [hn5]; dsimp only; omega
  have y5 : Ext w1 w5 := (y3.trans n4.ext).fresh u5 (by rintro i ⟨p, hp, rfl⟩; exact ((o3.ext n4.ext).base p hp).1)
  have hcap5 := o5.cap
  refine ⟨s2, w5, hr5, by omega, by omega, ?_⟩
  rw [cut0]
  have hrd : ∀ {w' : World}, Own w' w1.heap.size 5 1 s2 (bv xs ++ [Value.int .u8 77]) → Rd w' 1 ⟨s2.a, s.n, s2.c⟩ (bv xs) := fun ho => by
    have := ho.rd.take (k := s.n) (c := s2.c) (by omega)
    rw [List.take_left' (by unfold bv; rw [List.length_map]; exact hsn)] at this
    exact this
  refine ⟨(load_spec (v := ⟨s2.a, s.n, s2.c⟩) (hrd o5) (by dsimp only; omega) hx8).mono ?_⟩
  rintro e w6 ⟨x6, hcase⟩
  obtain ⟨a, v, rfl, hres⟩ : ∃ (a : Option Addr) (v : Value), e = .returned (.tuple #[.pointer a, v]) ∧
      (((loadT xs).2.er ≠ 0 ∧ ∃ p, a = none ∧ v = .iface 33 (.pointer (some ⟨p, 0, none⟩)) ∧ Blk w6 p 37 [.int .i64 (loadT xs).2.pl, .int .i64 (loadT xs).2.er] ∧ w5.heap.size ≤ p) ∨
       ((loadT xs).2.er = 0 ∧ ∃ t r, a = some ⟨t, 0, none⟩ ∧ v = .nilIface ∧ Tbl w6 t r ((loadT xs).1.length : Nat) (tblF 0 (loadT xs).1 f0) ∧ w5.heap.size ≤ t ∧ w5.heap.size ≤ r)) := by
    rcases hcase with ⟨g0, p, rfl, g1, g2⟩ | ⟨g0, t, r, rfl, g1, g2, g3⟩
    · exact ⟨_, _, rfl, .inl ⟨g0, p, rfl, rfl, g1, g2⟩⟩
    · exact ⟨_, _, rfl, .inr ⟨g0, t, r, rfl, rfl, g1, g2, g3⟩⟩
  clear hcase
  have y6 := y5.trans x6
  refine ⟨a, v, rfl, ⟨(rload_spec (hs.ext y6) (by omega) hx8).mono ?_⟩⟩
  rintro e w7 ⟨s3, rfl, hD, x7⟩
  have y7 := y6.trans x7
  have o7 := (o5.ext x6).ext x7
  have z6 := x6.size
  have z7 := x7.size
  have txt : ∀ {w' : World} {q : Sl}, Rd w' 1 q (bv xs) → Runs Tryd.prog (convert 22 9 (.slice q.a q.n q.c)) w' (.string (strOf xs)) w' := fun hq => Rd.text (t := 22) (e := 5) (d := 9) tab_ok rfl rfl rfl hq
  refine ⟨s3, _, _, rfl, fun _ => ⟨by omega, by omega, strOf xs, fun w' q => ?_, strOf xs, fun w' q => txt (hs.ext (y7.trans q.ext)), fun _ => ?_, fun h => absurd rfl h⟩, fun h => (by cases h)⟩
  · exact txt (q := ⟨s2.a, s.n, s2.c⟩) (hrd (o7.ext q.ext))
  obtain ⟨p2, hp2, hc2⟩ := o7.rd.2 (by omega)
  have hc77 := hc2 s.n (.int .u8 77) (by rw [List.getElem?_append_right (by unfold bv; rw [List.length_map]; omega)]; unfold bv; rw [List.length_map, hsn, Nat.sub_self]; rfl)
  refine ⟨by omega, by omega, p2, hp2, _, hc77, fun w8 q8 => ⟨fun h => absurd rfl h, fun _ => ?_⟩⟩
  refine ⟨fun n w' => ∃ (i : Nat) (vs : List Value), n = (i : Nat) ∧ i ≤ s2.n ∧ Own w' w1.heap.size 5 1 s2 vs ∧ Upd (fun k => k = p2.block) w7 w', fun n _ => (s2.n - n).toNat, ⟨0, _, rfl, Nat.zero_le _, o7.ext q8.ext, q8.ext.mono fun _ _ _ => not_false⟩, ?_⟩
  rintro _ n w9 ⟨i, vs, rfl, hi, o9, u9⟩
  have ei : IntKind.i64.wrap ((i : Int) + 1) = ((i + 1 : Nat) : Int) := by rw [wrap_i64 (by omega) (by omega)]; omega
  rw [ei]
  simp only [Int.toNat_natCast]
  refine ⟨fun hlt => ⟨by omega, by omega, p2, hp2, o9.canAt hp2 (by omega), fun w10 s10 => ?_⟩, fun hge => ?_⟩
  · obtain ⟨o10, u10⟩ := o9.setAt hp2 (by omega) s10
    exact ⟨⟨i + 1, _, rfl, by omega, o10, u9.same u10⟩, by omega⟩
  have hpb := o5.base p2 hp2
  have y9 : Ext w1 w9 := y7.fresh u9 (by rintro k rfl; exact hpb.1)
  have y09 := y1.trans y9
  have G9 := G.ext y09
  have hz9 := u9.size
  refine ⟨fun hne => ?_, fun hz => ?_⟩
  · rcases hres with hres | ⟨g0, _⟩
    rotate_left
    · exact absurd g0 hne
    obtain ⟨g0, p, rfl, rfl, g1, g2⟩ := hres
    have k9 := (g1.ext x7).upd u9 (by intro e; have e : p = p2.block := e; omega)
    intro w10 n10
    refine ⟨(as_spec (p := p) (G9.ext n10.ext) (Blk.new n10)).mono ?_⟩
    rintro e w11 ⟨rfl, k11, u11⟩
    have hpl := k9.lt
    have f11 := (k9.ext n10.ext).upd u11 (by intro e; have e : p = w9.heap.size := e; omega)
    have y11 : Ext w w11 := (y09.trans n10.ext).fresh u11 (by rintro k rfl; exact y09.size)
    refine ⟨_, rfl, fun _ => ⟨fun _ => ⟨_, k11.cell 0, fun _ => ⟨_, k11.cell 0, ⟨p, 0, none⟩, rfl, _, _, rfl, ⟨f11.cell 0, f11.cell 1⟩, (by show 2 ≤ 2; decide), fun _ => ⟨(is_hit p _ w11 (f11.cell 1)).mono ?_⟩, fun h => ?_⟩, fun h => (by cases h)⟩, fun h => (by cases h)⟩, fun h => (by cases h)⟩
    · rintro e w12 ⟨rfl, rfl⟩
      exact ⟨_, rfl, rfl, y11⟩
    · rw [if_neg hne] at h
      rcases h with h | h <;> exact absurd rfl h
  · rcases hres with ⟨g0, _⟩ | ⟨g0, t, r, rfl, rfl, g1, g2, g3⟩
    · exact absurd hz g0
    obtain ⟨_, eE, hT50, hO⟩ := loadT_ok hx8 g0
    have ef : tblF 0 (loadT xs).1 f0 = atT (loadT xs).1 := by
      funext x y
      exact tblF_is (fun l hl => (hO l hl).2) x y
    rw [ef] at g1
    generalize (loadT xs).1 = T at *
    have T9 : Tbl w9 t r (T.length : Nat) (atT T) := (g1.ext x7).upd u9 (by intro e; have e : t = p2.block := e; omega) (by intro e; have e : r = p2.block := e; omega)
    have D9 : DTK w9 s3 T := ((hD g0).upd u9 (by rintro k rfl; omega)).dtk
    have hs3 := D9.n
    refine ⟨⟨.inl rfl⟩, fun _ => ⟨fun h => (by cases h), fun _ => ?_⟩, fun h => (by cases h)⟩
    refine ⟨fun w' => Ext w9 w', ⟨fun n w' => ∃ k : Nat, n = (k : Int) - 1 ∧ k ≤ 100 ∧ Ext w9 w', fun n _ => (6 - n).toNat, ⟨0, rfl, Nat.zero_le _, Ext.refl _⟩, ?_⟩, ?_⟩
    · rintro _ n w10 ⟨k, rfl, hk, x10⟩
      have ek : IntKind.i64.wrap ((k : Int) - 1 + 1) = ((k + 1 : Nat) : Int) - 1 := by rw [wrap_i64 (by omega) (by omega)]; omega
      rw [ek]
      refine ⟨fun hle => ⟨fun h6 => ⟨(told_spec (T9.ext x10) (D9.ext x10) hO _ at_).mono ?_⟩, fun _ => x10⟩, fun _ => x10⟩
      rintro e w11 ⟨rfl, x11⟩
      exact ⟨_, rfl, fun h => (by cases h), fun _ => ⟨⟨k + 1, rfl, by omega, x10.trans x11⟩, by show (6 - (((k + 1 : Nat) : Int) - 1)).toNat < (6 - ((k : Int) - 1)).toNat; omega⟩⟩
    · rintro _ w10 x10
      refine ⟨(told_spec (T9.ext x10) (D9.ext x10) hO fn at_).mono ?_⟩
      rintro e w11 ⟨rfl, x11⟩
      refine ⟨_, rfl, fun w12 q12 => ⟨fun _ => False, fun _ => ?_, fun h => (by cases h)⟩⟩
      have x12 := (x10.trans x11).trans q12.ext
      have y12 := y9.trans x12
      refine ⟨strOf xs, fun w' u => txt (hs.ext (y12.trans u)), ⟨(bytes_spec (T9.ext x12) hO hT50 (by rw [eE]; omega)).mono ?_⟩⟩
      rintro e w13 ⟨s13, rfl, o13, x13⟩
      rw [eE] at o13
      exact ⟨s13, rfl, x13, strOf xs, fun w' u => txt (o13.ext u).rd, by simp, y09.trans (x12.trans x13)⟩
end Go.Proofs.YtihnjjmbcbfheaaDoor.V
