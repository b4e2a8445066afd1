/-
  The player's Make.
-/
import Derived.Test.YtcmmdaginkhomaaPl1
namespace Go.Proofs.Ytcmmdaginkhomaa.V
open Go Go.RowKit
set_option linter.unusedVariables false
set_option linter.unusedSimpArgs false
set_option maxRecDepth 100000

section
variable {w0 w : World} {p b1 g1 b2 g2 : Nat} {A : Ar} {s : Sl} {rs : List Nat} {o : OpV} {cs : List Nat}
theorem makes_spec (h : Pl w0 w p b1 g1 b2 g2 A A s rs) (ok : o.Ok w0 cs) (hl : rs.length ≤ 2000000000000) :
    Calls Try.prog 44 #[.pointer (some ⟨p, 0, none⟩), opV o] w fun e w' => e = .returned (.bool true) ∧ Stp w0 w p b1 g1 b2 g2 s (rs.length + 1) w' := by
  refine vc_44 _ _ _ _ _ _ _ _ _ _ _ _ _ ?_
  have hap := h.apart; have hne := h.ne; have hlo := h.lo
  have hcn := ok.rd.lenu
  have hm := ok.m
  have hwl := h.x.size
  have hb1 := h.a1.ws.lt; have hg1 := h.a1.hd.lt; have hb2 := h.a2.ws.lt; have hg2 := h.a2.hd.lt; have hp := h.hd.lt
  have hrs := h.ow.base
  obtain ⟨N, hN⟩ : ∃ N : Nat, N = o.c.n + 3 := ⟨_, rfl⟩
  simp only [eq_self, false_or, or_false, true_and, and_true, decide_eq_true_eq, decide_eq_false_iff_not, gd_st, gd_sf, exists_eq_left', exists_eq_left, Option.some.injEq, Sl.eta, Nat.reduceLeDiff, Int.reduceLE, Int.reduceLT, Int.reduceEq, Int.reduceNe, Nat.reduceMul, Nat.reduceAdd, Nat.reduceSub, Int.toNat_natCast, beq_iff_eq, bne_iff_ne, beq_eq_false_iff_ne, bne_eq_false_iff_eq, pick_and, pick_or, Bool.and_eq_true, Bool.or_eq_true, Bool.and_eq_false_iff, Bool.or_eq_false_iff, ne_eq, not_false_eq_true, Bool.not_eq_true', Bool.not_eq_false', reduceCtorEq, Nat.le_refl, Nat.zero_mul, Nat.mul_one, Nat.zero_add, Int.reduceToNat, ones, one, add_mk, Decidable.not_not, cond_true, cond_false, true_implies, false_implies, implies_true, Bool.not_true, Bool.not_false]
  intro w1 n1
  have k1 : Blk w1 w.heap.size 72 (opL o) := Blk.new n1
  have z1 := n1.size
  have e3 : IntKind.i64.wrap ((o.c.n : Int) + 3) = ((N : Nat) : Int) := by rw [wrap_i64 (by omega) (by omega)]; omega
  refine ⟨o.c, k1.cell 5, ?_⟩
  rw [e3, Int.toNat_natCast]
  refine ⟨by omega, fun w2 n2 => ⟨o.c, (k1.ext n2.ext).cell 5, ?_⟩⟩
  have k2 := k1.ext n2.ext
  have l2 : Blk w2 w1.heap.size 22 (List.replicate N (.int .u64 0)) := by
    have := Blk.new n2
    rw [zrow_one] at this
    simpa only [List.toList_toArray] using this
  have x2 := n1.ext.trans n2.ext
  have rd2 := (ok.rd.ext h.x).ext x2
  obtain ⟨w3, hr3, l3, u3, z3⟩ := run_copy (P := Try.prog) (t1 := 37) (t2 := 37) (ty := 3) (dn := N) (dc := N) tab_ok (by rfl) (by rfl) (o := 0) l2 (by simp) rd2 (uv_ones _)
  have hmin : min o.c.n N = cs.length := by omega
  have e4 : (List.replicate N (Value.int .u64 0)).take 0 ++ ((uv cs).take (min o.c.n N) ++ (List.replicate N (Value.int .u64 0)).drop (0 + min o.c.n N)) = uv (cs ++ List.replicate 3 0) := by
    rw [hmin, List.take_of_length_le (l := uv cs) (by simp), List.drop_replicate, uv_append]
    simp only [List.take_zero, List.nil_append]
    congr 1
    rw [show N - (0 + cs.length) = 3 by omega]
    rfl
  rw [e4] at l3
  have u3' : Upd (fun i => i = w1.heap.size) w2 w3 := u3
  have k3 := k2.upd u3' (by omega)
  have keepL : ∀ {w' w'' : World}, Pl w0 w' p b1 g1 b2 g2 A A s rs → Upd (fun i => i = w1.heap.size) w' w'' → Pl w0 w'' p b1 g1 b2 g2 A A s rs := fun h u =>
    h.keep u (by rintro i hi; omega) (by rintro q hq; have := hrs q hq; omega) (by rintro i rfl; omega)
  refine ⟨_, w3, hr3, o.c, k3.cell 5, fun n w' => ∃ (j : Nat) (L : List Nat), n = j ∧ cs.length ≤ j ∧ j ≤ N ∧ Blk w' w1.heap.size 22 (uv L) ∧ L.length = N ∧ (∀ i, i < cs.length → L[i]? = cs[i]?) ∧ (∀ i, cs.length ≤ i → i < j → L[i]? = some 201) ∧ Blk w' w.heap.size 72 (opL o) ∧ Pl w0 w' p b1 g1 b2 g2 A A s rs ∧ Upd (PS b1 g1 b2 g2 p s) w w',
    fun n _ => (N - n).toNat, ⟨cs.length, cs ++ List.replicate 3 0, by omega, Nat.le_refl _, by omega, l3, by simp; omega, fun i hi => List.getElem?_append_left hi, fun i h1 h2 => absurd h2 (by omega), k3, keepL (h.ext x2) u3', x2.toS.fresh u3' (by rintro i rfl; exact .inl (by omega))⟩, ?_⟩
  rintro _ n w4 ⟨j, L, rfl, hj0, hj1, l4, hL, hLc, hLs, k4, h4, U4⟩
  refine ⟨fun hlt => ⟨by omega, hlt, ?_⟩, fun hge w5 q5 => ?_⟩
  · rw [Int.toNat_natCast]
    refine ⟨l4.canSet _ (by rw [uv_length]; omega), fun w5 s5 => ?_⟩
    have l5 := s5.blk1 l4
    have hset : (uv L).set j (.int .u64 201) = uv (L.set j 201) := uv_set L j 201
    rw [hset] at l5
    have u5 : Upd (fun i => i = w1.heap.size) w4 w5 := s5.upd
    have ej : IntKind.i64.wrap ((j : Int) + 1) = ((j + 1 : Nat) : Int) := by rw [wrap_i64 (by omega) (by omega)]; omega
    rw [ej]
    refine ⟨⟨j + 1, L.set j 201, rfl, by omega, by omega, l5, by rw [List.length_set]; exact hL, fun i hi => ?_, fun i h1 h2 => ?_, k4.upd u5 (by omega), keepL h4 u5, U4.fresh u5 (by rintro i rfl; exact .inl (by omega))⟩, by dsimp only; omega⟩
    · rw [List.getElem?_set_ne (by omega)]; exact hLc i hi
    · rw [List.getElem?_set]
      by_cases hij : j = i
      · rw [if_pos hij, if_pos (by omega)]
      · rw [if_neg hij]; exact hLs i h1 (by omega)
  have ejN : j = N := by omega
  rw [ejN] at hLs
  have h5 := h4.ext q5.ext
  have k5 := k4.ext q5.ext
  have l5 := l4.ext q5.ext
  refine ⟨fun _ => False, _, fun w' u => (h5.hd.ext u).cell 0, _, _, _, _, rfl, fun w' u => ⟨(k5.ext u).cell 1, (k5.ext u).cell 2, (k5.ext u).cell 3, (k5.ext u).cell 4⟩, o.c, fun w' u => (k5.ext u).cell 5, by omega, by omega, ?_⟩
  rw [if_neg (by omega)]
  simp only [Option.map_some, add_mk, Nat.zero_add]
  have rd5 : Rd w5 1 ⟨some ⟨w1.heap.size, 0, none⟩, o.c.n, N⟩ (uv cs) := by
    have := l5.rd (z := 1) (o := 0) (n := o.c.n) (c := N) (by simp; omega)
    have e : ((uv L).drop 0).take (o.c.n * 1) = uv cs := by
      rw [List.drop_zero, Nat.mul_one, ← hcn]
      apply List.ext_getElem?
      intro i
      rw [List.getElem?_take]
      unfold uv
      rw [List.getElem?_map, List.getElem?_map]
      by_cases hi : i < cs.length
      · rw [if_pos hi, hLc i hi]
      · rw [if_neg hi, List.getElem?_eq_none (by omega)]; rfl
    rw [e] at this
    exact this
  refine ⟨(make_spec h5.a1 o.h rd5 (by rintro q hq; cases hq; dsimp only; omega) (by omega) ok.lt).mono ?_⟩
  rintro e w6 ⟨rfl, a6, u6⟩
  have h6 := h5.up1 u6 a6
  have k6 := k5.upd u6 (by omega)
  have l6 := l5.upd u6 (by omega)
  refine ⟨_, _, rfl, fun w7 q7 => ?_⟩
  have h7 := h6.ext q7.ext
  have k7 := k6.ext q7.ext
  have l7 := l6.ext q7.ext
  refine ⟨fun _ => False, _, fun w' u => (h7.hd.ext u).cell 1, _, _, _, _, rfl, fun w' u => ⟨(k7.ext u).cell 1, (k7.ext u).cell 2, (k7.ext u).cell 3, (k7.ext u).cell 4⟩, o.c, fun w' u => (k7.ext u).cell 5, ?_⟩
  refine ⟨(rmake_spec h7.a2 o.h (ok.rd.ext h7.x) (by omega) ok.lt).mono ?_⟩
  rintro e w8 ⟨rfl, a8, u8⟩
  have h8 := h7.up2 u8 a8
  have k8 := k7.upd u8 (by omega)
  have l8 := l7.upd u8 (by omega)
  have keepM : ∀ {w' w'' : World}, Pl w0 w' p b1 g1 b2 g2 (makeT A o.h cs).1 (makeT A o.h cs).1 s rs → Upd (fun i => i = w1.heap.size) w' w'' → Pl w0 w'' p b1 g1 b2 g2 (makeT A o.h cs).1 (makeT A o.h cs).1 s rs := fun h u =>
    h.keep u (by rintro i hi; omega) (by rintro q hq; have := hrs q hq; omega) (by rintro i rfl; omega)
  refine ⟨_, _, rfl, fun n w' => ∃ (j : Nat) (M : List Nat), n = j ∧ j ≤ N ∧ Blk w' w1.heap.size 22 (uv M) ∧ M.length = N ∧ (∀ i, j ≤ i → M[i]? = L[i]?) ∧ Blk w' w.heap.size 72 (opL o) ∧ Pl w0 w' p b1 g1 b2 g2 (makeT A o.h cs).1 (makeT A o.h cs).1 s rs ∧ Upd (PS b1 g1 b2 g2 p s) w w',
    fun n _ => (N - n).toNat, ⟨0, L, rfl, by omega, l8, hL, fun i _ => rfl, k8, h8, PS.u2 (PS.x (PS.u1 (PS.x U4 q5.ext) u6) q7.ext) u8⟩, ?_⟩
  rintro _ n w9 ⟨j, M, rfl, hj, l9, hM, hMs, k9, h9, U9⟩
  have ej : IntKind.i64.wrap ((j : Int) + 1) = ((j + 1 : Nat) : Int) := by rw [wrap_i64 (by omega) (by omega)]; omega
  rw [ej, Int.toNat_natCast]
  have nxt : j < N → ∀ w' w'', Ext w9 w' → SetW w' ⟨w1.heap.size, j, none⟩ [.int .u64 99] w'' → (∃ (j' : Nat) (M : List Nat), ((j + 1 : Nat) : Int) = j' ∧ j' ≤ N ∧ Blk w'' w1.heap.size 22 (uv M) ∧ M.length = N ∧ (∀ i, j' ≤ i → M[i]? = L[i]?) ∧ Blk w'' w.heap.size 72 (opL o) ∧ Pl w0 w'' p b1 g1 b2 g2 (makeT A o.h cs).1 (makeT A o.h cs).1 s rs ∧ Upd (PS b1 g1 b2 g2 p s) w w'') := by
    intro hjN w' w'' x' s'
    have l' := s'.blk1 (l9.ext x')
    have hset : (uv M).set j (.int .u64 99) = uv (M.set j 99) := uv_set M j 99
    rw [hset] at l'
    have u' : Upd (fun i => i = w1.heap.size) w' w'' := s'.upd
    exact ⟨j + 1, M.set j 99, rfl, by omega, l', by rw [List.length_set]; exact hM, fun i hi => by rw [List.getElem?_set_ne (by omega)]; exact hMs i (by omega), (k9.ext x').upd u' (by omega), keepM (h9.ext x') u', (PS.x U9 x').fresh u' (by rintro i rfl; exact .inl (by omega))⟩
  have can : j < N → ∀ w', Ext w9 w' → CanSet w' ⟨w1.heap.size, j, none⟩ 1 := fun hjN w' x' => (l9.ext x').canSet _ (by rw [uv_length]; omega)
  have celM : ∀ x, L[j]? = some x → w9.cell? ⟨w1.heap.size, j, none⟩ = some (.int .u64 (x : Nat)) := fun x hx => by
    rw [l9.cell]; unfold uv; rw [List.getElem?_map, hMs j (Nat.le_refl _), hx]; rfl
  refine ⟨fun hlt => ⟨o.c, k9.cell 5, fun hjc => ⟨by omega, hlt, ?_⟩, fun hjc => ⟨o.c, k9.cell 5, fun _ => ⟨by omega, hlt, _, celM 201 (hLs j (by omega) (by omega)), fun w10 q10 => ⟨fun hne => absurd rfl hne, fun _ => ⟨by omega, hlt, can (by omega) _ q10.ext, fun w11 s11 => ⟨nxt (by omega) _ _ q10.ext s11, by dsimp only; omega⟩⟩⟩⟩, fun hh => absurd hh (by omega)⟩⟩, fun hge => ?_⟩
  · obtain ⟨q, x, hq, hx, hc⟩ := (ok.rd.ext h9.x).word j (by omega)
    rw [Nat.mul_one] at hc
    have hxL : L[j]? = some x := by rw [hLc j (by omega)]; exact hx
    refine ⟨_, celM x hxL, o.c, k9.cell 5, by omega, hjc, q, hq, _, hc, fun _ => ⟨o.c, k9.cell 5, fun hh => absurd hh (by omega), fun _ w10 q10 => ⟨by omega, hlt, can (by omega) _ q10.ext, fun w11 s11 => ⟨nxt (by omega) _ _ q10.ext s11, by dsimp only; omega⟩⟩⟩, fun hne => absurd rfl hne⟩
  · have hlt := makeT_lt h.a1.ok o.h cs
    refine ⟨fun _ => ⟨s, h9.hd.cell 2, fun w10 n10 => ?_⟩, fun _ => ⟨fun _ => ⟨rb (by simp), _, _, _, h9, Nat.le_succ _, U9⟩, fun h => absurd rfl h⟩⟩
    obtain ⟨s', w11, hr11, can11, h11⟩ := h9.push hlt hl n10
    exact ⟨s', w11, hr11, can11, fun w12 s12 => ⟨fun _ => ⟨rb (by simp), _, _, _, (h11 w12 s12).1, by simp, U9.same (h11 w12 s12).2⟩, fun h => absurd rfl h⟩⟩
end
end Go.Proofs.Ytcmmdaginkhomaa.V
