/-
  Law ArenaBreaks: the plain law, and the walk.
-/
import Derived.Test.YtcmmdaginkhomaaLa5
namespace Go.Proofs.Ytcmmdaginkhomaa.V
open Go Go.RowKit
set_option linter.unusedVariables false
set_option linter.unusedSimpArgs false
set_option maxRecDepth 100000

theorem guard_word : ∀ (os : List Lo), (∀ o ∈ os, LoOk o) → ∀ (q y : Nat), (encs os)[q]? = some y → 9223372036854775808 ≤ y → ∃ X o Y, os = X ++ o :: Y ∧ q = (encs X).length + o.2.length + 1 ∧ y = 18446744073709551615 - packT o.1
  | [], _, q, y, h, _ => by rw [encs_nil] at h; cases h
  | o :: r, hok, q, y, h, hy => by
    have ho := hok o (List.mem_cons_self ..)
    have hp := pack_lt ho.may
    rw [encs_cons] at h
    rcases Nat.lt_or_ge q (encL o).length with hq | hq
    · rw [List.getElem?_append_left hq] at h
      rw [encL_length] at hq
      unfold encL at h
      cases q with
      | zero => injection h with h; omega
      | succ q =>
        rw [List.getElem?_cons_succ] at h
        rcases Nat.lt_or_ge q o.2.length with hq2 | hq2
        · rw [List.getElem?_append_left hq2] at h
          have := ho.lt y (List.mem_of_getElem? h)
          omega
        · have hq3 : q = o.2.length := by omega
          rw [List.getElem?_append_right hq2, hq3, Nat.sub_self] at h
          injection h with h
          exact ⟨[], o, r, rfl, by rw [encs_nil, hq3]; simp, h.symm⟩
    · rw [List.getElem?_append_right hq] at h
      rw [encL_length] at h hq
      obtain ⟨X, o', Y, rfl, h1, h2⟩ := guard_word r (fun x hx => hok x (List.mem_cons_of_mem _ hx)) _ y h hy
      exact ⟨o :: X, o', Y, rfl, by rw [encs_clen]; omega, h2⟩
section
variable {n : Nat} {os : List Lo}
/-- a header or a guard is turned: nothing stands there any more -/
theorem LInv.broken (hn : n ≤ 65536) (h : LInv n os) {k : Nat} {o : Lo} (ho : os[k]? = some o) {j x' : Nat} (hj : j = posL os k ∧ x' ≠ packT o.1 ∨ j = posL os k + o.2.length + 1 ∧ x' ≠ 18446744073709551615 - packT o.1) (hx : x' < 18446744073709551616) :
    stT ((laidA n os).put j x') ((laidA n os).put j x').use (posL os k + 1) = none ∧ allT ((laidA n os).put j x') = (objsL 0 (os.take k), posL os k) := by
  obtain ⟨hok, hpl, _, _⟩ := h.at_ hn ho
  have hcells := (h.cells hn ho).head
  have hlen := hok.len
  have hwl : (laidA n os).ws.length = 2 * n := (laidA_ok hn h.fit h.ok).len
  have hnone : stT ((laidA n os).put j x') ((laidA n os).put j x').use (posL os k + 1) = none := by
    cases hst : stT ((laidA n os).put j x') ((laidA n os).put j x').use (posL os k + 1) with
    | none => rfl
    | some h' =>
      exfalso
      obtain ⟨h1, m', h3, x1, hx1, rfl, hg⟩ := stT_in hst
      have hl0 := m'.2.2.1
      rw [Nat.add_sub_cancel] at hx1
      have hset : ((laidA n os).put j x').ws = (laidA n os).ws.set j x' := rfl
      rw [hset] at hx1 hg
      have huse : ((laidA n os).put j x').use.e = (encs os).length := rfl
      rw [huse] at h3
      rcases hj with ⟨rfl, hne⟩ | ⟨rfl, hne⟩
      · rw [List.getElem?_set, if_pos rfl, if_pos (by omega)] at hx1
        injection hx1 with hx1; subst hx1
        rw [List.getElem?_set_ne (by omega)] at hg
        have hpk := pack_lt m'
        rw [pack_unp] at hpk
        have hge : (encs os)[posL os k + 1 + (unpT x').l.toNat]? = some (18446744073709551615 - x') := by
          have : (laidA n os).ws = encs os ++ List.replicate (2 * n - (encs os).length) 0 := rfl
          rw [this, List.getElem?_append_left (by omega)] at hg
          exact hg
        obtain ⟨X, o', Y, hos, hq, hy⟩ := guard_word os h.ok _ _ hge (by omega)
        have ho' := h.ok o' (by rw [hos]; simp)
        have hp' := pack_lt ho'.may
        have ex : x' = packT o'.1 := by omega
        have eh : unpT x' = o'.1 := by rw [ex, unp_pack ho'.may]
        have hl' := ho'.len
        rw [eh] at hq
        have epos : posL os k = (encs X).length := by omega
        have hh : Holds (laidA n os).ws 0 (X ++ o' :: Y) := by rw [← hos]; exact laid_holds n os
        have h2 := hh.right.head.1
        rw [Nat.zero_add, ← epos, hcells.1] at h2
        injection h2 with h2
        exact hne (by rw [ex, h2])
      · rw [List.getElem?_set_ne (by omega), hcells.1] at hx1
        injection hx1 with hx1; subst hx1
        rw [unp_pack hok.may, List.getElem?_set, if_pos (by omega), if_pos (by omega)] at hg
        injection hg with hg
        exact hne hg
  refine ⟨hnone, ?_⟩
  have hjp : posL os k ≤ j := by omega
  have hh : Holds ((laidA n os).put j x').ws 0 (os.take k) := by
    have hs : Holds (laidA n os).ws 0 (os.take k ++ o :: os.drop (k + 1)) := by rw [← split_at ho]; exact laid_holds n os
    intro i hi
    show ((laidA n os).ws.set j x')[0 + i]? = _
    have : (encs (os.take k)).length = posL os k := rfl
    rw [List.getElem?_set_ne (by omega)]
    exact hs.left i hi
  have hp := path_of (A := (laidA n os).put j x') (os.take k) 0 (fun x hx => h.ok x (List.mem_of_mem_take hx)) hh (Nat.le_refl _) (by show 0 + (encs (os.take k)).length ≤ (encs os).length; have := posL_le (os := os) k; unfold posL at this; omega)
  rw [Nat.zero_add] at hp
  exact allT_eq ((laidA_ok hn h.fit h.ok).put hx) hp hnone
theorem LInv.brokenCheck (hn : n ≤ 65536) (h : LInv n os) {k : Nat} {o : Lo} (ho : os[k]? = some o) {j x' : Nat} (hj : j = posL os k ∧ x' ≠ packT o.1 ∨ j = posL os k + o.2.length + 1 ∧ x' ≠ 18446744073709551615 - packT o.1) (hx : x' < 18446744073709551616) :
    checkT ((laidA n os).put j x') = (posL os k, 21) ∧ headT ((laidA n os).put j x') (posL os k + 1) = none := by
  obtain ⟨h1, h2⟩ := h.broken hn ho hj hx
  obtain ⟨hok, hpl, _, _⟩ := h.at_ hn ho
  have h3 := posL_le (os := os) (k + 1)
  rw [posL_succ ho] at h3
  constructor
  · unfold checkT
    rw [h2]
    dsimp only
    rw [if_neg]
    show ¬ posL os k = (encs os).length
    omega
  · unfold headT
    rw [h1]
    rfl
end
theorem put_back {A : Ar} {j x x' : Nat} (h : A.ws[j]? = some x) : (A.put j x').put j x = A := by
  unfold Ar.put
  have : (A.ws.set j x').set j x = A.ws := by
    rw [List.set_set]
    obtain ⟨hj, rfl⟩ := List.getElem?_eq_some_iff.1 h
    exact List.set_getElem_self hj
  dsimp only
  rw [this]
theorem xor_ne {x b : Nat} (hb : b ≠ 0) : x ^^^ b ≠ x := fun h => hb (by
  have := congrArg (x ^^^ ·) h
  simpa [← Nat.xor_assoc] using this)
theorem wordO_at {A : Ar} {j x : Nat} (h : A.ws[j]? = some x) : wordO A (j : Int) = (x, true) := by
  have hj := (List.getElem?_eq_some_iff.1 h).1
  unfold wordO
  rw [if_pos (by omega), Int.toNat_natCast, List.getD_eq_getElem?_getD, h]; rfl
theorem setWO_at {A : Ar} {j : Nat} (h : j < A.ws.length) (x : Nat) : setWO A (j : Int) x = (A.put j x, true) := by
  unfold setWO
  rw [if_pos (by omega), Int.toNat_natCast]
theorem arenabreaks_walk (w : World) (v0 v1 v2 v3 v4 : Value) (x0 : Int) (x1 : (Par.one (.sl 64 ThR)).T) (x2 : Int) (x3 : Bool) (x4 : Int) (h0 : (Par.one (.int .i64)).Is w v0 x0) (h1 : (Par.one (.sl 64 ThR)).Is w v1 x1)
    (h2 : (Par.one (.int .i64)).Is w v2 x2) (h3 : (Par.one .bool).Is w v3 x3) (h4 : (Par.one (.int .u64)).Is w v4 x4) :
    Calls Try.prog 7 #[v0, v1, v2, v3, v4] w fun e w' => e = .returned (.bool true) ∧ Ext w w' := by
  obtain ⟨rfl, r0⟩ := h0
  obtain ⟨rfl, hc, hm, ts, hts⟩ := ths_is h1
  obtain ⟨rfl, r2⟩ := h2
  obtain rfl : v3 = .bool x3 := h3
  obtain ⟨rfl, r4⟩ := h4
  have r0 := wf_i64 r0; have r2 := wf_i64 r2; have r4 := wf_u64 r4
  obtain ⟨things, ls⟩ := x1
  dsimp only at *
  obtain ⟨bits, rfl⟩ : ∃ m : Nat, x4 = m := ⟨x4.toNat, by omega⟩
  refine vc_7 x0 things x2 x3 (bits : Int) _ _ ?_
  simp only [eq_self, false_or, or_false, true_and, and_true, decide_eq_true_eq, decide_eq_false_iff_not, gd_st, gd_sf, exists_eq_left', exists_eq_left, Option.some.injEq, Sl.eta, Nat.reduceLeDiff, Int.reduceLE, Int.reduceLT, Int.reduceEq, Int.reduceNe, Nat.reduceMul, Nat.reduceAdd, Nat.reduceSub, Int.toNat_natCast, beq_iff_eq, bne_iff_ne, beq_eq_false_iff_ne, bne_eq_false_iff_eq, pick_and, pick_or, Bool.and_eq_true, Bool.or_eq_true, Bool.and_eq_false_iff, Bool.or_eq_false_iff, ne_eq, not_false_eq_true, Bool.not_eq_true', Bool.not_eq_false', reduceCtorEq, Nat.le_refl, Nat.zero_mul, Nat.mul_one, Nat.zero_add, Int.reduceToNat, ones, one, add_mk, Decidable.not_not, cond_true, cond_false, true_implies, false_implies, implies_true, Bool.not_true, Bool.not_false]
  refine ⟨(shown_spec w).mono ?_⟩
  rintro e w2 ⟨rfl, x2'⟩
  refine ⟨_, rfl, ⟨(pick_spec x0 2000 w2 r0.1 r0.2 (by decide)).mono ?_⟩⟩
  rintro e w3 ⟨rfl, rfl⟩
  have hpk := pk_lt (c := x0) (n := 2000) (by decide)
  refine ⟨_, rfl, ⟨(new_spec (n := pk x0 2000) (by omega) _).mono ?_⟩⟩
  rintro e w4 ⟨x4, ⟨hno, _⟩ | ⟨N, b, g, hk, hN, rfl, hb, hg, a4⟩⟩
  · omega
  rw [laidA_new] at a4
  have x04 := x2'.trans x4
  have z02 := x2'.size
  refine ⟨_, _, rfl, fun _ => ⟨fun _ => ⟨fun h => absurd rfl h, fun _ => ⟨(laid_spec hN a4 hts x04 (by omega) hm).mono ?_⟩⟩, fun h => (by cases h)⟩, fun h => (by cases h)⟩
  rintro e w5 ⟨s0, s1, s2, cl, rfl, ld⟩
  have hinv := laidL_inv hN ts
  generalize laidL N ts = os at ld hinv
  have hfit := hinv.fit
  have hol := layT_len hinv
  obtain ⟨ns0, ns1, ns2⟩ := ld.ns
  have x05 : Ext w w5 := x04.fresh ld.u (by rintro i (rfl | rfl) <;> omega)
  refine ⟨s0, s1, s2, _, rfl, fun _ => ⟨fun hne0 => ⟨fun _ => ⟨rfl, x05⟩, fun hbits => ⟨(pick_spec x2 (s0.n : Int) w5 r2.1 r2.2 (by omega)).mono ?_⟩⟩, fun _ => ⟨rfl, x05⟩⟩, fun h => (by cases h)⟩
  rintro e w6 ⟨rfl, rfl⟩
  have hpk2 := pk_lt (c := x2) (n := (s0.n : Int)) (by omega)
  obtain ⟨k, hkk⟩ : ∃ k : Nat, pk x2 (s0.n : Int) = k := ⟨(pk x2 (s0.n : Int)).toNat, by omega⟩
  rw [hkk] at hpk2 ⊢
  obtain ⟨o, ho⟩ : ∃ o, os[k]? = some o := ⟨_, List.getElem?_eq_getElem (by omega)⟩
  obtain ⟨hok, hpl, hst, hhd⟩ := hinv.at_ hN ho
  have holen := hok.len
  have homl := hok.may.le
  obtain ⟨q, hq, hcq⟩ := ld.ref ho
  obtain ⟨q1, hq1, _, _, hh2, _⟩ := ld.head ho
  have e1 : IntKind.i64.wrap (IntKind.i64.wrap ((posL os k + 1 : Nat) : Int) - 1) = ((posL os k : Nat) : Int) := by
    rw [wrap_i64 (n := ((posL os k + 1 : Nat) : Int)) (by omega) (by omega), wrap_i64 (by omega) (by omega)]; omega
  refine ⟨_, rfl, by omega, by omega, q, hq, _, by rw [Int.toNat_natCast]; exact hcq, ?_⟩
  rw [e1]
  have hcells := (hinv.cells hN ho).head
  have hwl : (laidA N os).ws.length = 2 * N := ld.a.ok.len
  have hpkt := pack_lt hok.may
  refine ⟨fun n v => v = _ ∧ ∃ j x : Nat, n = j ∧ (laidA N os).ws[j]? = some x ∧ x < 18446744073709551616 ∧ ∀ x', x' ≠ x → j = posL os k ∧ x' ≠ packT o.1 ∨ j = posL os k + o.2.length + 1 ∧ x' ≠ 18446744073709551615 - packT o.1, ⟨fun _ => ⟨by omega, by omega, q1, hq1, _, by rw [Int.toNat_natCast]; exact hh2, rfl, posL os k + o.2.length + 1, _, ?_, hcells.2.1, by omega, fun x' hx' => .inr ⟨rfl, hx'⟩⟩, fun _ => ⟨rfl, posL os k, _, rfl, hcells.1, by omega, fun x' hx' => .inl ⟨rfl, hx'⟩⟩⟩, ?_⟩
  · rw [wrap_i64 (n := ((posL os k : Nat) : Int) + o.1.l) (by omega) (by omega), wrap_i64 (by omega) (by omega)]; omega
  rintro _ n y ⟨rfl, j, x, rfl, hx, hxl, hbr⟩
  have hj := (List.getElem?_eq_some_iff.1 hx).1
  refine ⟨(word_spec ld.a _).mono ?_⟩
  rintro e y1 ⟨rfl, rfl⟩
  rw [wordO_at hx]
  have hb0 : bits ≠ 0 := by rintro rfl; exact hbits rfl
  have exo : bitV .xor .u64 ((x : Nat) : Int) ((bits : Nat) : Int) = ((x ^^^ bits : Nat) : Int) := xor_u64 _ _ hxl (by omega)
  have hxor : x ^^^ bits < 18446744073709551616 := Nat.xor_lt_two_pow (n := 64) hxl (by omega)
  refine ⟨_, _, rfl, fun _ => ?_, fun h => (by cases h)⟩
  dsimp only
  rw [exo]
  refine ⟨(setWord_spec ld.a _ hxor).mono ?_⟩
  rintro e y2 ⟨rfl, a2, u2⟩
  rw [setWO_at hj] at a2 ⊢
  have hbk := hinv.brokenCheck hN ho (hbr _ (xor_ne hb0)) hxor
  refine ⟨_, rfl, fun h => (by cases h), fun _ => ⟨(check_spec a2).mono ?_⟩⟩
  rintro e y3 ⟨rfl, xy3⟩
  dsimp only at a2
  rw [hbk.1]
  have hlt := ld.lt
  have r2' := (ld.r.upd u2 (by rintro q' hq'; have := (ld.r.base q' hq').1; omega))
  have ref : ∀ {v : World}, Ext y2 v → ∃ q', s0.a = some q' ∧ v.cell? (q'.add k) = some (.int .u64 (posL os k + 1 : Nat)) := fun xv => by
    obtain ⟨q', x', hq', hx', hc'⟩ := (r2'.ext xv).rd.word k (by omega)
    rw [refsOf_at ho] at hx'
    injection hx' with hx'
    rw [Nat.mul_one, ← hx'] at hc'
    exact ⟨q', hq', hc'⟩
  obtain ⟨q3, hq3, hc3⟩ := ref xy3
  have a3 := a2.ext xy3
  refine ⟨_, _, rfl, by omega, by omega, q3, hq3, _, by rw [Int.toNat_natCast]; exact hc3, ⟨(header_spec a3 (r := posL os k + 1) (by omega)).mono ?_⟩⟩
  rintro e y4 ⟨rfl, xy4⟩
  rw [hbk.2]
  refine ⟨_, _, _, _, _, rfl, fun y5 m5 => ⟨rfl, HB.can m5, fun y6 m6 => ⟨fun _ => ?_, fun h => absurd rfl h⟩⟩⟩
  obtain ⟨_, xy6⟩ := HB.made (h := hd0) m5 m6
  have xx6 := (xy3.trans xy4).trans xy6
  obtain ⟨q6, hq6, hc6⟩ := ref xx6
  refine ⟨by omega, by omega, q6, hq6, _, by rw [Int.toNat_natCast]; exact hc6, fun _ => ⟨fun h => (by cases h), fun _ => ⟨(setWord_spec (a2.ext xx6) _ hxl).mono ?_⟩⟩, fun hne => absurd e1.symm hne⟩
  rintro e y7 ⟨rfl, a7, u7⟩
  rw [setWO_at (by show j < ((laidA N os).ws.set j _).length; rw [List.length_set]; exact hj)] at a7 ⊢
  dsimp only at a7
  rw [put_back hx] at a7
  refine ⟨_, rfl, ⟨(check_spec a7).mono ?_⟩⟩
  rintro e y8 ⟨rfl, xy8⟩
  rw [checkT_laid hN hfit hinv.ok hinv.refs]
  exact ⟨_, _, rfl, fun _ => ⟨rfl, (((x05.fresh u2 (by rintro i rfl; omega)).trans xx6).fresh u7 (by rintro i rfl; omega)).trans xy8⟩, fun h => absurd rfl h⟩
end Go.Proofs.Ytcmmdaginkhomaa.V
