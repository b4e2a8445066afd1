/-
  Law ArenaMoves: what stands there after Close; the walk.
-/
import Derived.Test.YtcmmdaginkhomaaLm1
namespace Go.Proofs.Ytcmmdaginkhomaa.V
open Go Go.RowKit
set_option linter.unusedVariables false
set_option linter.unusedSimpArgs false
set_option maxRecDepth 100000

/-- an arena in whose space in use these objects stand, from word n on -/
structure Moved (n : Nat) (mv : List Lo) (B : Ar) : Prop where
  ok : B.Ok
  nn : B.n = n
  use : B.use = ⟨n, n + (encs mv).length⟩
  opn : B.opn = false
  new : Holds B.ws n mv
  lo : ∀ o ∈ mv, LoOk o
theorem wordO_zero (A : Ar) : (wordO A 0).1 = A.ws.getD 0 0 := by
  unfold wordO
  split
  · rfl
  · rw [List.getD_eq_getElem?_getD, List.getElem?_eq_none (by omega)]; rfl
theorem Mv.closed {n : Nat} {os : List Lo} {order : List Nat} {A : Ar} (h : LInv n os) (m : Mv n os order A) (zero : Bool) :
    (closeT A zero).2 = 0 ∧ Moved n (mvL os order) (closeT A zero).1 ∧ (zero = true → (wordO (closeT A zero).1 0).1 = 0) := by
  have hok := closeT_ok m.ok zero
  have hwl := m.ok.len
  rw [m.nn] at hwl
  have he : closeT A zero = ({ A with ws := if zero = true then layL A.ws A.use.f (List.replicate A.n 0) else A.ws, use := A.nxt, nxt := ⟨0, 0⟩, opn := false }, 0) := by
    unfold closeT; rw [m.opn, if_neg (by decide)]
  rw [he] at hok ⊢
  have hmem : ∀ o ∈ mvL os order, LoOk o := by
    intro o ho
    obtain ⟨k, hk, rfl⟩ := List.mem_map.1 ho
    have hl := m.lt k hk
    rw [List.getD_eq_getElem?_getD, List.getElem?_eq_getElem hl]
    exact h.ok _ (List.getElem_mem hl)
  refine ⟨rfl, ⟨hok, m.nn, m.nxt, rfl, ?_, hmem⟩, ?_⟩
  · intro i hi
    dsimp only
    split
    · rw [layL_get (by rw [List.length_replicate, m.use, m.nn]; dsimp only; omega), m.use, List.length_replicate, m.nn]
      dsimp only
      rw [if_neg (by omega), if_neg (by omega)]
      exact m.new i hi
    · exact m.new i hi
  · intro hz
    subst hz
    have hl : A.use.f + (List.replicate A.n 0).length ≤ A.ws.length := by rw [List.length_replicate, m.use, m.nn]; dsimp only; omega
    rw [wordO_zero]
    show (layL A.ws A.use.f (List.replicate A.n 0)).getD 0 0 = 0
    rw [List.getD_eq_getElem?_getD, layL_get hl, m.use, List.length_replicate, m.nn]
    dsimp only
    by_cases h0 : n = 0
    · rw [if_neg (by omega), if_neg (by omega), List.getElem?_eq_none (by omega)]; rfl
    · rw [if_neg (by omega), if_pos (by omega), List.getElem?_replicate, if_pos (by omega)]; rfl
def lastR (n : Nat) (mv : List Lo) (t : Nat) : Nat := if t = 0 then 0 else n + posL mv (t - 1) + 1
section
variable {n : Nat} {mv : List Lo} {B : Ar}
theorem Moved.at_ (m : Moved n mv B) {t : Nat} {o : Lo} (ho : mv[t]? = some o) : LoOk o ∧ n + posL mv t + o.2.length + 2 ≤ 2 * n ∧ stT B B.use (n + posL mv t + 1) = some o.1 ∧ headT B (n + posL mv t + 1) = some o.1 := by
  have h1 := m.lo o (List.mem_of_getElem? ho)
  have hl := h1.len
  have h2 := posL_le (os := mv) (t + 1)
  rw [posL_succ ho] at h2
  have h3 := m.ok.useIn
  rw [m.use, m.nn] at h3
  dsimp only at h3
  have hc := (m.new.at_ ho).head
  have hst : stT B B.use (n + posL mv t + 1) = some o.1 := stT_of (by rw [m.use]; dsimp only; omega) h1.may (by rw [m.use]; dsimp only; omega) hc.1 (by rw [show n + posL mv t + o.1.l.toNat + 1 = n + posL mv t + o.2.length + 1 by omega]; exact hc.2.1)
  exact ⟨h1, by omega, hst, by unfold headT; rw [hst]⟩
theorem Moved.cell (m : Moved n mv B) {t : Nat} {o : Lo} (ho : mv[t]? = some o) {i : Nat} (hi : i < o.2.length) : cellO B (n + posL mv t + 1) (i : Int) = (o.2.getD i 0, 0) := by
  obtain ⟨h1, h2, _, h4⟩ := m.at_ ho
  have hl := h1.len
  unfold cellO placeT
  rw [h4]
  dsimp only
  rw [if_pos (by omega)]
  have := (m.new.at_ ho).head.2.2 i hi
  dsimp only
  rw [Int.toNat_natCast, List.getD_eq_getElem?_getD, List.getD_eq_getElem?_getD, this]
theorem Moved.none_ (m : Moved n mv B) : stT B B.use (n + (encs mv).length + 1) = none := by
  unfold stT
  rw [if_neg]
  rw [m.use]
  dsimp only
  omega
theorem Moved.last (m : Moved n mv B) (t : Nat) : lastT B (n + posL mv t + 1) = if t < mv.length then (n + posL mv t + 1, true) else (0, false) := by
  have hsp : spT B = B.use := by unfold spT; rw [m.opn]; rfl
  unfold lastT
  rw [hsp]
  by_cases h : t < mv.length
  · rw [(m.at_ (List.getElem?_eq_getElem h)).2.2.1, if_pos h]
  · rw [posL_all (by omega), m.none_, if_neg h]
theorem Moved.after (m : Moved n mv B) {t : Nat} (ht : t ≤ mv.length) : afterT B (lastR n mv t) = if t < mv.length then (n + posL mv t + 1, true) else (0, false) := by
  have hsp : spT B = B.use := by unfold spT; rw [m.opn]; rfl
  cases t with
  | zero =>
    unfold afterT lastR
    rw [if_pos rfl, if_pos rfl, hsp, m.use]
    have h0 : posL mv 0 = 0 := rfl
    have := m.last 0
    rw [h0, Nat.add_zero] at this
    rw [h0, Nat.add_zero]
    exact this
  | succ t =>
    have ho : mv[t]? = some mv[t] := List.getElem?_eq_getElem (by omega)
    obtain ⟨h1, h2, h3, _⟩ := m.at_ ho
    have hl := h1.len
    unfold afterT
    have e : lastR n mv (t + 1) = n + posL mv t + 1 := by unfold lastR; rw [if_neg (by omega), Nat.add_sub_cancel]
    rw [e, if_neg (by omega), hsp, h3]
    dsimp only
    have e2 : n + posL mv t + 1 + mv[t].1.l.toNat + 2 = n + posL mv (t + 1) + 1 := by rw [posL_succ ho]; omega
    rw [e2]
    exact m.last (t + 1)
end
section
variable {w w' v : World} {b g N : Nat} {os : List Lo} {s s1 s2 : Sl} {cl : List Sl}
theorem Ld.offU (h : Ld w w' b g N os s s1 s2 cl) {o : Sl} {e z : Nat} {xs : List Value} (ho : Own w' w.heap.size e z o xs) : o.off fun k => k = b ∨ k = g := fun q hq hs => by
  have := (ho.base q hq).1; have := h.lt; omega
theorem Ld.refU (h : Ld w w' b g N os s s1 s2 cl) (u : Upd (fun k => k = b ∨ k = g) w' v) {k : Nat} {o : Lo} (ho : os[k]? = some o) : ∃ q, s.a = some q ∧ v.cell? (q.add k) = some (.int .u64 (posL os k + 1 : Nat)) := by
  have hk := (List.getElem?_eq_some_iff.1 ho).1
  obtain ⟨q, x, hq, hx, hc⟩ := (h.r.upd u (h.offU h.r)).rd.word k (by rw [h.ns.1]; exact hk)
  rw [refsOf_at ho] at hx
  injection hx with hx
  rw [Nat.mul_one, ← hx] at hc
  exact ⟨q, hq, hc⟩
theorem Ld.headU (h : Ld w w' b g N os s s1 s2 cl) (u : Upd (fun k => k = b ∨ k = g) w' v) {k : Nat} {o : Lo} (ho : os[k]? = some o) : ∃ q, s1.a = some q ∧ v.cell? ((q.add (k * 4)).add 0) = some (.int .i64 o.1.k) ∧ v.cell? ((q.add (k * 4)).add 1) = some (.int .i64 o.1.t) ∧
      v.cell? ((q.add (k * 4)).add 2) = some (.int .i64 o.1.l) ∧ v.cell? ((q.add (k * 4)).add 3) = some (.int .u64 (o.1.r : Nat)) :=
  (h.h.upd u (h.offU h.h)).rd.hds (by rw [List.getElem?_map, ho]; rfl)
theorem Ld.rowU (h : Ld w w' b g N os s s1 s2 cl) (u : Upd (fun k => k = b ∨ k = g) w' v) {k : Nat} {o : Lo} (ho : os[k]? = some o) : ∃ q c, s2.a = some q ∧ v.cell? (q.add k) = some (.slice c.a c.n c.c) ∧ Rd v 1 c (uv o.2) := by
  have hk := (List.getElem?_eq_some_iff.1 ho).1
  obtain ⟨q, v', hq, hv, hc⟩ := (h.c.upd u (h.offU h.c)).rd.at1 k (by rw [h.ns.2.2]; exact hk)
  unfold slV at hv
  rw [List.getElem?_map] at hv
  obtain ⟨c, hcl, rfl⟩ := Option.map_eq_some_iff.1 hv
  exact ⟨q, c, hq, hc, ((h.cs k o c ho hcl).upd u (h.offU (h.cs k o c ho hcl))).rd⟩
end
/-- what was told of the objects that were moved -/
def ToOk (n : Nat) (os : List Lo) (order T : List Nat) : Prop := T.length = os.length ∧ (∀ (t k : Nat), order[t]? = some k → T[k]? = some (n + posL (mvL os order) t + 1)) ∧ ∀ k, k < os.length → k ∉ order → T[k]? = some 0
theorem ToOk.snoc {n : Nat} {os : List Lo} {order T : List Nat} (h : ToOk n os order T) {k : Nat} (hk : k < os.length) (hno : k ∉ order) : ToOk n os (order ++ [k]) (T.set k (n + (encs (mvL os order)).length + 1)) := by
  obtain ⟨h1, h2, h3⟩ := h
  refine ⟨by rw [List.length_set]; exact h1, fun t k' ht => ?_, fun k' hk' hno' => ?_⟩
  · rw [mvL_snoc]
    rcases Nat.lt_or_ge t order.length with h4 | h4
    · rw [List.getElem?_append_left h4] at ht
      have hne : k ≠ k' := fun e => hno (e ▸ List.mem_of_getElem? ht)
      rw [List.getElem?_set_ne hne, posL_append (by rw [mvL_length]; omega)]
      exact h2 t k' ht
    · have h5 := (List.getElem?_eq_some_iff.1 ht).1
      rw [List.length_append, List.length_singleton] at h5
      have h6 : t = order.length := by omega
      rw [List.getElem?_append_right h4, h6, Nat.sub_self] at ht
      injection ht with ht
      subst ht
      rw [List.getElem?_set, if_pos rfl, if_pos (by omega), h6, posL_append (by rw [mvL_length]; exact Nat.le_refl _), posL_all (by rw [mvL_length]; exact Nat.le_refl _)]
  · have hne : k ≠ k' := fun e => hno' (by rw [e]; exact List.mem_append_right _ (List.mem_singleton_self _))
    rw [List.getElem?_set_ne hne]
    exact h3 k' hk' fun hm => hno' (List.mem_append_left _ hm)
theorem push1i {w w1 : World} {B : Nat} {x : Int} {c : Sl} {xs : List Int} (o : Own w B 3 1 c (iv xs)) (hB : B ≤ w.heap.size) (hl : xs.length ≤ 17592186043904) (n1 : NewW w (.cells #[.int .i64 x] 3) w1) :
    ∃ c' w', Runs Try.prog (Builtin.append_ #[60, 60] 60 #[.slice c.a c.n c.c, .slice (some ⟨w.heap.size, 0, none⟩) 1 1]) w1 (.slice c'.a c'.n c'.c) w' ∧ Own w' B 3 1 c' (iv (xs ++ [x])) ∧ Upd (fun k => ∃ q, c.a = some q ∧ k = q.block) w w' ∧
      ∀ g T cs, Blk w g T cs → T ≠ 3 → Blk w' g T cs := by
  have hn := o.rd.leni
  have rd : Rd w1 1 ⟨some ⟨w.heap.size, 0, none⟩, 1, 1⟩ (iv [x]) := (Blk.new n1).rd (z := 1) (o := 0) (n := 1) (c := 1) (by simp)
  obtain ⟨c', w', hr, _, o', u', hcase⟩ := (o.ext n1.ext).append (t := 60) (ty := 60) tab_ok (by rfl) (by rfl) (by decide) rd (iv_ones _) (by dsimp only; omega) (by dsimp only; omega) (by have := n1.ext.size; omega)
  refine ⟨c', w', hr, by rw [iv_append]; exact o', n1.ext.toS.trans u' fun i hi hn => ⟨hn, hn⟩, fun g T cs hb hne => ?_⟩
  refine (hb.ext n1.ext).upd u' ?_
  rintro ⟨q, hq, he⟩
  exact own_blk_ne o hb (fun h => hne h.symm) q hq he.symm
theorem arenamoves_walk (w : World) (v0 v1 v2 v3 : Value) (x0 : Int) (x1 : (Par.one (.sl 64 ThR)).T) (x2 : (Par.one (.sl 8 (.cons (.int .i64) .nil))).T) (x3 : Bool) (h0 : (Par.one (.int .i64)).Is w v0 x0) (h1 : (Par.one (.sl 64 ThR)).Is w v1 x1)
    (h2 : (Par.one (.sl 8 (.cons (.int .i64) .nil))).Is w v2 x2) (h3 : (Par.one .bool).Is w v3 x3) :
    Calls Try.prog 8 #[v0, v1, v2, v3] w fun e w' => e = .returned (.bool true) ∧ Ext w w' := by
  obtain ⟨rfl, r0⟩ := h0
  obtain ⟨rfl, hc, hm, ts, hts⟩ := ths_is h1
  obtain ⟨rfl, hc2, hm2, _, ws, hws, hwb⟩ := is_ints h2
  obtain rfl : v3 = .bool x3 := h3
  have r0 := wf_i64 r0
  obtain ⟨things, ls⟩ := x1
  obtain ⟨which, ls2⟩ := x2
  dsimp only at *
  have hwn := hws.leni
  refine vc_8 x0 things which x3 _ _ ?_
  simp only [eq_self, false_or, or_false, true_and, and_true, decide_eq_true_eq, decide_eq_false_iff_not, gd_st, gd_sf, exists_eq_left', exists_eq_left, Option.some.injEq, Sl.eta, Nat.reduceLeDiff, Int.reduceLE, Int.reduceLT, Int.reduceEq, Int.reduceNe, Nat.reduceMul, Nat.reduceAdd, Nat.reduceSub, Int.toNat_natCast, beq_iff_eq, bne_iff_ne, beq_eq_false_iff_ne, bne_eq_false_iff_eq, pick_and, pick_or, Bool.and_eq_true, Bool.or_eq_true, Bool.and_eq_false_iff, Bool.or_eq_false_iff, ne_eq, not_false_eq_true, Bool.not_eq_true', Bool.not_eq_false', reduceCtorEq, Nat.le_refl, Nat.zero_mul, Nat.mul_one, Nat.zero_add, Int.reduceToNat, ones, one, add_mk, Decidable.not_not, cond_true, cond_false, true_implies, false_implies, implies_true, Bool.not_true, Bool.not_false]
  refine ⟨(shown_spec w).mono ?_⟩
  rintro e w2 ⟨rfl, x2'⟩
  refine ⟨_, rfl, ⟨(pick_spec x0 2000 w2 r0.1 r0.2 (by decide)).mono ?_⟩⟩
  rintro e w3 ⟨rfl, rfl⟩
  have hpk := pk_lt (c := x0) (n := 2000) (by decide)
  refine ⟨_, rfl, ⟨(new_spec (n := pk x0 2000) (by omega) _).mono ?_⟩⟩
  rintro e w4 ⟨x4, ⟨hno, _⟩ | ⟨N, b, g, hk, hN, rfl, hb, hg, a4⟩⟩
  · omega
  rw [laidA_new] at a4
  have x04 := x2'.trans x4
  have z02 := x2'.size
  refine ⟨_, _, rfl, fun _ => ⟨fun _ => ⟨fun h => absurd rfl h, fun _ => ⟨(laid_spec hN a4 hts x04 (by omega) hm).mono ?_⟩⟩, fun h => (by cases h)⟩, fun h => (by cases h)⟩
  rintro e w5 ⟨s0, s1, s2, cl, rfl, ld⟩
  have hinv := laidL_inv hN ts
  generalize laidL N ts = os at ld hinv
  have hfit := hinv.fit
  have hol := layT_len hinv
  obtain ⟨ns0, ns1, ns2⟩ := ld.ns
  have hlt := ld.lt
  have x05 : Ext w w5 := x04.fresh ld.u (by rintro i (rfl | rfl) <;> omega)
  have z45 := ld.u.size
  have extW : ∀ {v : World}, Upd (fun k => k = b ∨ k = g) w5 v → Ext w v := fun u => x05.fresh u (by rintro i (rfl | rfl) <;> omega)
  refine ⟨s0, s1, s2, _, rfl, fun _ => ⟨(open_spec ld.a).mono ?_⟩, fun h => (by cases h)⟩
  rintro e w6 ⟨rfl, a6, u6⟩
  obtain ⟨eo, mv0⟩ := Mv.start hN hinv
  rw [eo] at a6 ⊢
  dsimp only at a6
  have U6 : Upd (fun k => k = b ∨ k = g) w5 w6 := u6.mono fun i _ hn e => hn (.inr e)
  refine ⟨_, rfl, fun h => absurd rfl h, fun _ => ⟨by omega, fun w7 n7 => ?_⟩⟩
  have z6 := u6.size
  have z7 := n7.size
  have t7 : Blk w7 w6.heap.size 22 (uv (List.replicate s0.n 0)) := by
    have := Blk.new n7
    rw [zrow_one] at this
    simpa [uv] using this
  have a7 := a6.ext n7.ext
  have U7 : Upd (fun k => k = b ∨ k = g) w5 w7 := U6.still' n7.ext
  let St : List Nat → List Nat → Ar → Sl → World → Prop := fun order T A s v => Mv N os order A ∧ ArW 92 v b g A ∧ Own v w5.heap.size 3 1 s (iv (order.map fun (k : Nat) => (k : Int))) ∧ Blk v w6.heap.size 22 (uv T) ∧ ToOk N os order T ∧ Upd (fun k => k = b ∨ k = g) w5 v
  refine ⟨fun s v => ∃ order T A, St order T A s v, ⟨fun s n v => ∃ (i : Nat) (order T : List Nat) (A : Ar), n = i ∧ i ≤ which.n ∧ order.length ≤ i ∧ St order T A s v, fun _ n _ => (which.n - n).toNat,
    ⟨0, [], _, _, rfl, Nat.zero_le _, Nat.le_refl _, mv0, a7, Own.nil _ _ _ _, t7, ⟨by rw [List.length_replicate, ns0], fun t k h => (by cases h), fun k hk _ => by rw [List.getElem?_replicate, if_pos (by omega)]⟩, U7⟩, ?_⟩, ?_⟩
  · rintro _ s n v ⟨i, order, T, A, rfl, hi, hoi, mv, av, os3, tv, hT, Uv⟩
    refine ⟨fun hlt1 => ⟨fun hpos => ?_, fun _ => ⟨order, T, A, mv, av, os3, tv, hT, Uv⟩⟩, fun _ => ⟨order, T, A, mv, av, os3, tv, hT, Uv⟩⟩
    obtain ⟨q, y, hq, hy, hcy⟩ := (hws.ext (extW Uv)).intl i (by omega)
    rw [Nat.mul_one] at hcy
    have hyb := hwb y (List.mem_of_getElem? hy)
    refine ⟨by omega, hlt1, q, hq, _, by rw [Int.toNat_natCast]; exact hcy, ⟨(pick_spec y (s0.n : Int) v hyb.1 hyb.2 (by omega)).mono ?_⟩⟩
    rintro e v1 ⟨rfl, rfl⟩
    have hpk2 := pk_lt (c := y) (n := (s0.n : Int)) (by omega)
    obtain ⟨k, hkk⟩ : ∃ k : Nat, pk y (s0.n : Int) = k := ⟨(pk y (s0.n : Int)).toNat, by omega⟩
    rw [hkk] at hpk2 ⊢
    obtain ⟨o, ho⟩ : ∃ o, os[k]? = some o := ⟨_, List.getElem?_eq_getElem (by omega)⟩
    obtain ⟨hok, hpl, _, _⟩ := hinv.at_ hN ho
    obtain ⟨q0, hq0, hc0⟩ := ld.refU Uv ho
    have hkl : k < os.length := by omega
    have ei : IntKind.i64.wrap ((i : Int) + 1) = ((i + 1 : Nat) : Int) := by rw [wrap_i64 (by omega) (by omega)]; omega
    refine ⟨_, rfl, by omega, by omega, q0, hq0, _, by rw [Int.toNat_natCast]; exact hc0, ?_⟩
    rw [ei, Int.toNat_natCast]
    refine ⟨(copy_spec av (r := posL os k + 1) (by omega)).mono ?_⟩
    rintro e v2 ⟨rfl, a2, u2⟩
    have U2 : Upd (fun k => k = b ∨ k = g) w5 v2 := Uv.trans u2 fun i hi hn => ⟨hn, hn⟩
    have tv2 := tv.upd u2 (by omega)
    have os2 := os3.upd u2 (by rintro q hq; have := (os3.base q hq).1; omega)
    have hTl := hT.1
    have setT : ∀ {v3 v4 : World} {x : Nat}, Blk v3 w6.heap.size 22 (uv T) → SetW v3 ⟨w6.heap.size, k, none⟩ [.int .u64 (x : Nat)] v4 → Blk v4 w6.heap.size 22 (uv (T.set k x)) := by
      intro v3 v4 x hb hs
      have := hs.blk1 hb
      rw [uv_set] at this
      exact this
    have canT : ∀ {v3 : World}, Blk v3 w6.heap.size 22 (uv T) → CanSet v3 ⟨w6.heap.size, k, none⟩ 1 := fun hb => hb.canSet _ (by rw [uv_length]; omega)
    have cellT : ∀ {v3 : World} {x : Nat}, Blk v3 w6.heap.size 22 (uv T) → T[k]? = some x → v3.cell? ⟨w6.heap.size, k, none⟩ = some (.int .u64 (x : Nat)) := fun hb hx => by
      rw [hb.cell]; unfold uv; rw [List.getElem?_map, hx]; rfl
    rcases mv.copy hN hinv ho with ⟨t, ht, hcp⟩ | ⟨hno, A', hcp, mv'⟩
    · rw [hcp] at a2 ⊢
      dsimp only at a2
      have hTk := hT.2.1 t k ht
      refine ⟨_, _, rfl, fun v' => v' = v2, ⟨fun _ => ⟨fun _ => ⟨by omega, by omega, _, cellT tv2 hTk, fun _ => ⟨by omega, by omega, _, cellT tv2 hTk, fun hne => absurd rfl hne, fun _ => rfl⟩, fun _ => rfl⟩, fun h => absurd h (by dsimp only; omega)⟩, fun h => absurd rfl h⟩, ?_⟩
      rintro _ v' rfl
      refine ⟨by omega, by omega, _, cellT tv2 hTk, fun h => absurd h (by omega), fun _ => ⟨by omega, by omega, canT tv2, fun v3 s3 => ?_⟩⟩
      have tv3 := setT tv2 s3
      have hTs : T.set k (N + posL (mvL os order) t + 1) = T := by
        obtain ⟨hkT, e⟩ := List.getElem?_eq_some_iff.1 hTk
        rw [← e]; exact List.set_getElem_self hkT
      rw [hTs] at tv3
      have u3 : Upd (fun i => i = w6.heap.size) v' v3 := s3.upd
      refine ⟨⟨i + 1, order, T, A, rfl, by omega, by omega, mv, a2.upd u3 (by omega) (by omega), os2.upd u3 (own_blk_ne os2 tv2 (by decide)), tv3, hT, U2.trans u3 fun i hi hn => ⟨hn, by omega⟩⟩, by dsimp only; omega⟩
    · rw [hcp] at a2 ⊢
      dsimp only at a2
      have hTk := hT.2.2 k hkl hno
      refine ⟨_, _, rfl, fun v' => v' = v2, ⟨fun _ => ⟨fun _ => ⟨by omega, by omega, _, cellT tv2 hTk, fun h => absurd rfl h, fun _ => rfl⟩, fun h => absurd h (by dsimp only; omega)⟩, fun h => absurd rfl h⟩, ?_⟩
      rintro _ v' rfl
      refine ⟨by omega, by omega, _, cellT tv2 hTk, fun _ v3 m3 => ?_, fun h => absurd rfl h⟩
      have zU := U2.size
      obtain ⟨s', v4, hr4, o4, u4, hblk⟩ := push1i os2 zU (by rw [List.length_map]; omega) m3
      have tv4 := hblk _ _ _ tv2 (by decide)
      refine ⟨s', v4, hr4, by omega, by omega, canT tv4, fun v5 s5 => ?_⟩
      have tv5 := setT tv4 s5
      have u5 : Upd (fun i => i = w6.heap.size) v4 v5 := s5.upd
      have nbg : ∀ i, i < w5.heap.size → ¬ ∃ q, s.a = some q ∧ i = q.block := by
        rintro i hi ⟨q, hq, rfl⟩
        have := (os2.base q hq).1; omega
      have a4' := a2.upd u4 (nbg g (by omega)) (nbg b (by omega))
      refine ⟨⟨i + 1, order ++ [k], _, A', rfl, by omega, by rw [List.length_append, List.length_singleton]; omega, mv', a4'.upd u5 (by omega) (by omega), ?_, tv5, hT.snoc hkl hno, (U2.trans u4 fun i hi hn => ⟨hn, nbg i hi⟩).trans u5 fun i hi hn => ⟨hn, by omega⟩⟩, by dsimp only; omega⟩
      rw [List.map_append]
      exact o4.upd u5 (own_blk_ne o4 tv4 (by decide))
  rintro _ s3 v ⟨order, T, A, mv, av, os3, tv, hT, Uv⟩
  have hol3 := os3.rd.leni
  rw [List.length_map] at hol3
  refine ⟨(close_spec av x3).mono ?_⟩
  rintro e v1 ⟨rfl, a1, u1⟩
  obtain ⟨ec, md, hz⟩ := mv.closed hinv x3
  rw [ec]
  have U1 : Upd (fun k => k = b ∨ k = g) w5 v1 := Uv.trans u1 fun i hi hn => ⟨hn, hn⟩
  have t1 := tv.upd u1 (by omega)
  have o1 := os3.upd u1 (by rintro q hq; have := (os3.base q hq).1; omega)
  generalize (closeT A x3).1 = B at a1 md hz
  have hml := mvL_length os order
  have hole : order.length ≤ os.length := by
    have := sum_le (fun _ => 1) os.length order mv.nd mv.lt
    have e : ∀ l : List Nat, (l.map fun _ => 1).sum = l.length := by
      intro l
      induction l with
      | nil => rfl
      | cons a l ih => rw [List.map_cons, List.sum_cons, ih, List.length_cons]; omega
    rw [e, e, List.length_range] at this
    exact this
  have hmle := mvL_le os order mv.nd mv.lt
  refine ⟨_, rfl, fun h => absurd rfl h, fun _ => ?_⟩
  refine ⟨fun n r t v => ∃ i : Nat, n = ((posL (mvL os order) i : Nat) : Int) ∧ r = ((lastR N (mvL os order) i : Nat) : Int) ∧ t = i ∧ i ≤ order.length ∧ Ext v1 v, fun _ _ t _ => (order.length - t).toNat, ⟨0, rfl, rfl, rfl, Nat.zero_le _, Ext.refl _⟩, ?_⟩
  rintro _ n r t v2 ⟨i, rfl, rfl, rfl, hi, x2⟩
  have hlr : lastR N (mvL os order) i < 18446744073709551616 := by
    unfold lastR
    have := posL_le (os := mvL os order) (i - 1)
    split <;> omega
  have haf := md.after (t := i) (by omega)
  refine ⟨fun hlt2 => ?_, fun hge => ?_⟩
  · obtain ⟨k, hk⟩ : ∃ k, order[i]? = some k := ⟨_, List.getElem?_eq_getElem (by omega)⟩
    have hkm := mv.lt k (List.mem_of_getElem? hk)
    obtain ⟨o, ho⟩ : ∃ o, os[k]? = some o := ⟨_, List.getElem?_eq_getElem hkm⟩
    have hmo : (mvL os order)[i]? = some o := by
      unfold mvL; rw [List.getElem?_map, hk]; show some (os.getD k lo0) = _; rw [List.getD_eq_getElem?_getD, ho]; rfl
    obtain ⟨hok, hpl, hst, hhd⟩ := md.at_ hmo
    have holen := hok.len
    have homl := hok.may.le
    rw [if_pos (by omega)] at haf
    obtain ⟨q, y, hq, hy, hcy⟩ := (o1.ext x2).rd.intl i (by omega)
    rw [List.getElem?_map, hk] at hy
    injection hy with hy
    have hy : ((k : Nat) : Int) = y := hy
    subst hy
    rw [Nat.mul_one] at hcy
    refine ⟨by omega, hlt2, q, hq, _, by rw [Int.toNat_natCast]; exact hcy, ⟨(after_spec (a1.ext x2) hlr).mono ?_⟩⟩
    rintro e v3 ⟨rfl, x3'⟩
    rw [haf]
    refine ⟨_, _, rfl, ⟨(header_spec ((a1.ext x2).ext x3') (r := N + posL (mvL os order) i + 1) (by omega)).mono ?_⟩⟩
    rintro e v4 ⟨rfl, x4'⟩
    rw [hhd]
    refine ⟨_, _, _, _, _, rfl, fun v5 m5 => ⟨rfl, HB.can m5, fun v6 m6 => ⟨fun _ => ⟨fun _ => ?_, fun h => (by cases h)⟩, fun h => (by cases h)⟩⟩⟩
    obtain ⟨hb6, x6⟩ := HB.made (h := o.1) m5 m6
    have xx6 := ((x2.trans x3').trans x4').trans x6
    have hTk := hT.2.1 i k hk
    have U6' := U1.still' xx6
    obtain ⟨q1, hq1, hh⟩ := ld.headU U6' ho
    refine ⟨by omega, by omega, _, ?_, fun _ => ⟨_, _, _, _, rfl, ⟨hb6.cell 0, hb6.cell 1, hb6.cell 2, hb6.cell 3⟩, by omega, by omega, q1, hq1, _, _, _, _, rfl, by rw [Int.toNat_natCast]; exact hh, fun v7 q7 => ⟨fun hh => ?_, fun _ => ?_⟩⟩, fun hne => absurd rfl hne⟩
    · rw [Int.toNat_natCast, (t1.ext xx6).cell]; unfold uv; rw [List.getElem?_map, hTk]; rfl
    · rcases hh with ((hh | hh) | hh) | hh <;> exact absurd rfl hh
    refine ⟨fun n v => ∃ j : Nat, n = j ∧ j ≤ o.2.length ∧ Ext v7 v, fun n _ => (o.2.length - n).toNat, ⟨0, rfl, Nat.zero_le _, Ext.refl _⟩, ?_⟩
    rintro _ n v8 ⟨j, rfl, hj, x78⟩
    have xx8 := xx6.trans (q7.ext.trans x78)
    have hb8 := hb6.ext (q7.ext.trans x78)
    refine ⟨_, hb8.cell 2, fun hlt3 => ⟨(Cell_spec (a1.ext xx8) (r := N + posL (mvL os order) i + 1) (by omega) (i := (j : Int)) (by omega)).mono ?_⟩, fun hge3 => ⟨_, hb8.cell 2, ?_⟩⟩
    · rintro e v9 ⟨rfl, x9⟩
      rw [md.cell hmo (by omega)]
      have U9 := U1.still' (xx8.trans x9)
      obtain ⟨q2, c, hq2, hc2, rd⟩ := ld.rowU U9 ho
      have hcn := rd.lenu
      obtain ⟨q3, x, hq3, hx3, hc3⟩ := rd.word j (by omega)
      rw [Nat.mul_one] at hc3
      have ex : o.2.getD j 0 = x := by rw [List.getD_eq_getElem?_getD, hx3]; rfl
      have ej : IntKind.i64.wrap ((j : Int) + 1) = ((j + 1 : Nat) : Int) := by rw [wrap_i64 (by omega) (by omega)]; omega
      rw [ex, ej]
      exact ⟨_, _, rfl, fun _ => ⟨by omega, by omega, q2, hq2, c, by rw [Int.toNat_natCast]; exact hc2, by omega, by omega, q3, hq3, _, by rw [Int.toNat_natCast]; exact hc3, fun hne => absurd rfl hne, fun _ => ⟨⟨j + 1, rfl, by omega, x78.trans x9⟩, by dsimp only; omega⟩⟩, fun h => absurd rfl h⟩
    · have es : IntKind.i64.wrap (IntKind.i64.wrap (((posL (mvL os order) i : Nat) : Int) + o.1.l) + 2) = ((posL (mvL os order) (i + 1) : Nat) : Int) := by
        rw [wrap_i64 (n := ((posL (mvL os order) i : Nat) : Int) + o.1.l) (by omega) (by omega), wrap_i64 (by omega) (by omega), posL_succ hmo]; omega
      have ei : IntKind.i64.wrap ((i : Int) + 1) = ((i + 1 : Nat) : Int) := by rw [wrap_i64 (by omega) (by omega)]; omega
      have el : ((N + posL (mvL os order) i + 1 : Nat) : Int) = ((lastR N (mvL os order) (i + 1) : Nat) : Int) := by unfold lastR; rw [if_neg (by omega), Nat.add_sub_cancel]
      rw [es, ei, el]
      exact ⟨⟨i + 1, rfl, rfl, rfl, by omega, xx8⟩, by dsimp only; omega⟩
  rw [if_neg (by omega)] at haf
  refine ⟨(after_spec (a1.ext x2) hlr).mono ?_⟩
  rintro e v3 ⟨rfl, x3'⟩
  rw [haf]
  refine ⟨_, _, rfl, ⟨(word_spec ((a1.ext x2).ext x3') 0).mono ?_⟩⟩
  rintro e v4 ⟨rfl, rfl⟩
  refine ⟨_, _, rfl, fun _ => ⟨(used_spec ((a1.ext x2).ext x3')).mono ?_⟩, fun h => (by cases h)⟩
  rintro e v5 ⟨rfl, q5⟩
  have hfin : Ext w v5 := (extW U1).trans ((x2.trans x3').trans q5.ext)
  have eu : ((B.use.e - B.use.f : Nat) : Int) = ((posL (mvL os order) i : Nat) : Int) := by
    rw [md.use, posL_all (by omega)]; dsimp only; omega
  refine ⟨_, rfl, fun _ => ⟨fun h => ⟨fun _ => ⟨rb (by rw [hz h]; rfl), hfin⟩, fun _ => hfin⟩, fun _ => hfin⟩, fun hne => absurd eu hne⟩
end Go.Proofs.Ytcmmdaginkhomaa.V
