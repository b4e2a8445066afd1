/-
  Objects in their row; alike.
-/
import Derived.Test.YtgbpglfieellpaaCv3
namespace Go.Proofs.Ytgbpglfieellpaa.V
open Go Go.RowKit
set_option linter.unusedVariables false
set_option linter.unusedSimpArgs false
set_option maxRecDepth 100000

theorem Path.next {A : Ar} {a k e : Nat} {m l : List Ob} {h : Hd} (hm : Path A a m k) (hs : stT A A.use (k + 1) = some h) (hl : Path A a l e) (he : stT A A.use (e + 1) = none) : l[m.length]? = some (k + 1, h) := by
  obtain ⟨m', rfl, _⟩ := (hm.snoc hs).rest hl he
  rw [List.append_assoc, List.getElem?_append_right (Nat.le_refl _), Nat.sub_self]; rfl
/-- the objects of a list of things -/
def obsQ (T : Nat → Th) (f : Nat) (Q : List Nat) (n : Nat) : List Ob := (List.range n).map fun t => (f + posQ T Q t + 1, hdrT (T (Q.getD t 0)))
theorem obsQ_len (T : Nat → Th) (f : Nat) (Q : List Nat) (n : Nat) : (obsQ T f Q n).length = n := by simp [obsQ]
theorem obsQ_at {T : Nat → Th} {f : Nat} {Q : List Nat} {n t j : Nat} (ht : t < n) (hj : Q[t]? = some j) : (obsQ T f Q n)[t]? = some (f + posQ T Q t + 1, hdrT (T j)) := by
  unfold obsQ
  rw [List.getElem?_map, List.getElem?_range ht]
  show some (f + posQ T Q t + 1, hdrT (T (Q.getD t 0))) = _
  rw [List.getD_eq_getElem?_getD, hj]; rfl
section
variable {T : Nat → Th} {N n f : Nat} {Q : List Nat} {A : Ar}
theorem Laid.stands (h : Laid T N n f Q (pNew T f Q) A) {t j : Nat} (hj : Q[t]? = some j) : stT A A.use (f + posQ T Q t + 1) = some (hdrT (T j)) ∧ ObjAt A.ws (f + posQ T Q t) (hdrT (T j)) (cellV N (fun m => pNew T f Q m + 1) (T j)) := by
  obtain ⟨h1, h2, o⟩ := h.at_ j (List.mem_of_getElem? hj)
  have ep : pNew T f Q j = f + posQ T Q t := by unfold pNew; rw [idxOf_at h.nd hj]
  rw [ep] at h1 h2 o
  exact ⟨o.st (hdrT_may _) (by rw [h.uf]; exact h1) (by rw [hl_nat]; exact h2), o⟩
theorem Laid.path (h : Laid T N n f Q (pNew T f Q) A) : ∀ t, t ≤ Q.length → Path A A.use.f (obsQ T f Q t) (f + posQ T Q t)
  | 0, _ => by rw [h.uf]; exact .nil
  | t + 1, ht => by
    have hj : Q[t]? = some Q[t] := List.getElem?_eq_getElem (by omega)
    have ih := h.path t (by omega)
    have hs := (h.stands hj).1
    have := ih.snoc hs
    rw [hl_nat] at this
    rw [posQ_succ hj]
    have e : obsQ T f Q (t + 1) = obsQ T f Q t ++ [(f + posQ T Q t + 1, hdrT (T Q[t]))] := by
      unfold obsQ
      rw [List.range_succ, List.map_append, List.map_cons, List.map_nil, List.getD_eq_getElem?_getD, hj]; rfl
    rw [e]
    simp only [← Nat.add_assoc] at this ⊢
    exact this
theorem Laid.whole (h : Laid T N n f Q (pNew T f Q) A) (hue : A.use.e = f + szQ T Q) : Path A A.use.f (obsQ T f Q Q.length) A.use.e ∧ stT A A.use (A.use.e + 1) = none := by
  have := h.path Q.length (Nat.le_refl _)
  rw [posQ_all (Nat.le_refl _), ← hue] at this
  refine ⟨this, ?_⟩
  unfold stT
  rw [if_neg (by omega)]
/-- a walk that stands somewhere -/
theorem Laid.at_walk (h : Laid T N n f Q (pNew T f Q) A) (hue : A.use.e = f + szQ T Q) {m : List Ob} {k : Nat} {hd : Hd} (hm : Path A A.use.f m k) (hs : stT A A.use (k + 1) = some hd) :
    ∃ j, Q[m.length]? = some j ∧ k = f + posQ T Q m.length ∧ hd = hdrT (T j) := by
  obtain ⟨hw, he⟩ := h.whole hue
  have hn := hm.next hs hw he
  have hl := (List.getElem?_eq_some_iff.1 hn).1
  rw [obsQ_len] at hl
  have hj : Q[m.length]? = some Q[m.length] := List.getElem?_eq_getElem hl
  rw [obsQ_at hl hj] at hn
  injection hn with hn
  have e1 := congrArg Prod.fst hn; have e2 := congrArg Prod.snd hn
  dsimp only at e1 e2
  exact ⟨_, hj, by omega, e2.symm⟩
theorem Laid.end_walk (h : Laid T N n f Q (pNew T f Q) A) (hue : A.use.e = f + szQ T Q) {m : List Ob} {k : Nat} (hm : Path A A.use.f m k) (hs : stT A A.use (k + 1) = none) : m.length = Q.length := by
  obtain ⟨hw, he⟩ := h.whole hue
  rw [(hm.uniq hs hw he).1, obsQ_len]
theorem Laid.cellO (h : Laid T N n f Q (pNew T f Q) A) {t j a : Nat} (hj : Q[t]? = some j) (ha : a < lenT (T j)) : cellO A (f + posQ T Q t + 1) (a : Int) = (cellV N (fun m => pNew T f Q m + 1) (T j) a, 0) := by
  obtain ⟨hs, o⟩ := h.stands hj
  have hc := o.cells a (by rw [hl_nat]; exact ha)
  have hp : placeT A (f + posQ T Q t + 1) (a : Int) = some (f + posQ T Q t + 1 + a) := by
    unfold placeT headT
    rw [hs]
    dsimp only
    rw [if_pos (by rw [hdrT_l]; omega), Int.toNat_natCast]
  unfold V.cellO
  rw [hp]
  dsimp only
  rw [List.getD_eq_getElem?_getD, hc]; rfl
end
/-- the frame of alike, somewhere in its walk -/
structure Ak (w W : World) (g : Nat) (s so st : Sl) (c1 c2 c3 c4 cc ci : Nat) (m : Nat) : Prop where
  k0 : Blk W w.heap.size 25 [.pointer (some ⟨g, 0, none⟩)]
  k1 : Blk W c1 22 [.slice s.a s.n s.c]
  k2 : Blk W c2 32 [.slice so.a so.n so.c]
  k3 : Blk W c3 30 [.slice st.a st.n st.c]
  k4 : Blk W c4 4 [.bool false]
  kc : Blk W cc 25 [.pointer (some ⟨g, 0, none⟩)]
  ki : Blk W ci 3 [.int .i64 (m : Nat)]
  x : Ext w W
theorem Ak.upd {w W W' : World} {g : Nat} {s so st : Sl} {c1 c2 c3 c4 cc ci m : Nat} {S : Nat → Prop} (h : Ak w W g s so st c1 c2 c3 c4 cc ci m) (u : Upd S W W') {M : Nat} (hM : w.heap.size < M ∧ c1 < M ∧ c2 < M ∧ c3 < M ∧ c4 < M ∧ cc < M ∧ ci < M) (hS : ∀ k, S k → M ≤ k) : Ak w W' g s so st c1 c2 c3 c4 cc ci m :=
  have no : ∀ i, i < M → ¬ S i := fun i hi hs => by have := hS i hs; omega
  ⟨h.k0.upd u (no _ hM.1), h.k1.upd u (no _ hM.2.1), h.k2.upd u (no _ hM.2.2.1), h.k3.upd u (no _ hM.2.2.2.1), h.k4.upd u (no _ hM.2.2.2.2.1), h.kc.upd u (no _ hM.2.2.2.2.2.1), h.ki.upd u (no _ hM.2.2.2.2.2.2), h.x.fresh u fun i hi => by have := hS i hi; omega⟩
theorem Ak.ext {w W W' : World} {g : Nat} {s so st : Sl} {c1 c2 c3 c4 cc ci m : Nat} (h : Ak w W g s so st c1 c2 c3 c4 cc ci m) (u : Ext W W') : Ak w W' g s so st c1 c2 c3 c4 cc ci m :=
  ⟨h.k0.ext u, h.k1.ext u, h.k2.ext u, h.k3.ext u, h.k4.ext u, h.kc.ext u, h.ki.ext u, h.x.trans u⟩
theorem alike_spec {W0 w : World} {b g n f : Nat} {A : Ar} {ts : List Th} {Q toL : List Nat} {s so st : Sl} (hts : ThsIs W0 s ts) (x0 : Ext W0 w) (hN : ts.length ≤ 1000) (h : ArW 76 w b g A) (hL : Laid (tsT ts) ts.length n f Q (pNew (tsT ts) f Q) A) (hue : A.use.e = f + szQ (tsT ts) Q) (hF : Fine ts.length Q)
    (ho : Rd w 1 so (nv Q)) (ht : Rd w 1 st (uv toL)) (htn : toL.length = ts.length) (hto : ∀ j ∈ Q, toL[j]? = some (pNew (tsT ts) f Q j + 1)) :
    Calls Try.prog 24 #[.pointer (some ⟨g, 0, none⟩), .slice s.a s.n s.c, .slice so.a so.n so.c, .slice st.a st.n st.c] w fun e w' => e = .returned (.bool true) ∧ Ext w w' := by
  refine vc_24 _ _ _ _ _ _ ?_
  have hsn := hts.n
  have hon := ho.lenn
  have htn' := ht.lenu
  have hFl := hF.len
  have hnn := h.ok.n; have hui := h.ok.useIn; have hu1 := h.ok.use1
  have hbl := h.ws.lt; have hgl := h.hd.lt
  simp only [eq_self, false_or, or_false, true_and, and_true, decide_eq_true_eq, decide_eq_false_iff_not, gd_st, gd_sf, exists_eq_left', exists_eq_left, Option.some.injEq, Sl.eta, Nat.reduceLeDiff, Int.reduceLE, Int.reduceLT, Int.reduceEq, Int.reduceNe, Nat.reduceMul, Nat.reduceAdd, Nat.reduceSub, Int.toNat_natCast, beq_iff_eq, bne_iff_ne, beq_eq_false_iff_ne, bne_eq_false_iff_eq, pick_and, pick_or, Bool.and_eq_true, Bool.or_eq_true, Bool.and_eq_false_iff, Bool.or_eq_false_iff, ne_eq, not_false_eq_true, Bool.not_eq_true', Bool.not_eq_false', reduceCtorEq, Nat.le_refl, Nat.zero_mul, Nat.mul_one, Nat.zero_add, Int.reduceToNat, ones, one, add_mk, Decidable.not_not, cond_true, cond_false, true_implies, false_implies, implies_true, Bool.not_true, Bool.not_false]
  intro w1 n1 w2 n2 w3 n3 w4 n4 w5 n5
  have z1 := n1.size; have z2 := n2.size; have z3 := n3.size; have z4 := n4.size; have z5 := n5.size
  have x05 : Ext w w5 := (((n1.ext.trans n2.ext).trans n3.ext).trans n4.ext).trans n5.ext
  have k0 := (((Blk.new n1).ext n2.ext).ext n3.ext).ext (n4.ext.trans n5.ext)
  have k1 := ((Blk.new n2).ext n3.ext).ext (n4.ext.trans n5.ext)
  have k2 := (Blk.new n3).ext (n4.ext.trans n5.ext)
  have k3 := (Blk.new n4).ext n5.ext
  have k4 := Blk.new n5
  refine ⟨_, k0.cell 0, ⟨(all_spec g w5).mono ?_⟩⟩
  rintro e w6 ⟨rfl, cc6, x56⟩
  have z6 := x56.size
  have zc := cc6.lt
  refine ⟨_, rfl, fun w7 n7 => ⟨(Blk.new n7).canSet 0 (by simp), fun w8 s8 => fun rec D l w9 u9 hDl hD hR hY => ?_⟩⟩
  have z7 := n7.size; have z8 := s8.size; have z9 := u9.size
  have ki8 := s8.blk1 (Blk.new n7)
  simp only [List.set] at ki8
  have x68 : Ext w6 w8 := n7.ext.fresh s8.upd (by rintro i rfl; exact Nat.le_refl _)
  have ak9 : Ak w w9 g s so st w1.heap.size w2.heap.size w3.heap.size w4.heap.size w5.heap.size w6.heap.size 0 :=
    ⟨((k0.ext x56).ext x68).ext u9, ((k1.ext x56).ext x68).ext u9, ((k2.ext x56).ext x68).ext u9, ((k3.ext x56).ext x68).ext u9, ((k4.ext x56).ext x68).ext u9, (cc6.ext x68).ext u9, ki8.ext u9, ((x05.trans x56).trans x68).trans u9⟩
  have hM : w.heap.size < w8.heap.size ∧ w1.heap.size < w8.heap.size ∧ w2.heap.size < w8.heap.size ∧ w3.heap.size < w8.heap.size ∧ w4.heap.size < w8.heap.size ∧ w5.heap.size < w8.heap.size ∧ w6.heap.size < w8.heap.size := by omega
  have hAx : ∀ {W : World} {m : Nat}, Ak w W g s so st w1.heap.size w2.heap.size w3.heap.size w4.heap.size w5.heap.size w6.heap.size m → ArW 76 W b g A ∧ Rd W 1 so (nv Q) ∧ Rd W 1 st (uv toL) := fun a => ⟨h.ext a.x, ho.ext a.x, ht.ext a.x⟩
  refine ⟨(all1_spec (c := w5.heap.size) (g := g) (l := l)
    (fun k W => k ≤ 131072 ∧ ∃ m, Path A A.use.f m k ∧ Ak w W g s so st w1.heap.size w2.heap.size w3.heap.size w4.heap.size w5.heap.size w6.heap.size m.length ∧ Dfr D W ∧ Rdy rec l W)
    (fun W => Ak w W g s so st w1.heap.size w2.heap.size w3.heap.size w4.heap.size w5.heap.size w6.heap.size Q.length ∧ Dfr D W ∧ Rdy rec l W) ?_ (h0 := (hAx ak9).1) ⟨by omega, [], .nil, ak9, hD, hR⟩).mono ?_⟩
  · rintro k W ⟨hk, m, hPm, ak, hDW, hRW⟩
    refine ⟨hk, ak.kc, b, A, (hAx ak).1, fun W' x => ⟨fun hst => ?_, fun hd hst => ?_⟩⟩
    · rw [← hL.end_walk hue hPm hst]
      exact ⟨ak.ext x, hDW.upd x not_false, hRW.upd x not_false⟩
    have hin := stT_in hst
    obtain ⟨j, hj, hkj, hdj⟩ := hL.at_walk hue hPm hst
    have hjQ := List.mem_of_getElem? hj
    have hjN := hF.lt j hjQ
    have hml := (List.getElem?_eq_some_iff.1 hj).1
    obtain ⟨t, hts_t⟩ : ∃ t, ts[j]? = some t := ⟨_, List.getElem?_eq_getElem hjN⟩
    have eT : tsT ts j = t := tsT_at hts_t
    rw [eT] at hdj
    subst hdj
    have ell : (hdrT t).l = ((lenT t : Nat) : Int) := hdrT_l t
    have ek : (hdrT t).k = kindT t := hdrT_k t
    have hl18 := lenT_le t
    obtain ⟨q, c, mm, hq, hth, hcb, hnb, hc5⟩ := hts.thn hts_t
    have hlW := hRW.lt; have hDW' := hDW.lt; have zx := x.size; have zk := ak.x.size
    refine hY _ _ _ _ _ W' _ (hRW.upd x not_false) ?_
    intro v1 m1
    refine ⟨rfl, HB.can m1, fun v2 s2 => ?_⟩
    obtain ⟨hb2, y2⟩ := HB.made m1 s2
    have y2' : Ext W' v2 := y2
    have x2 := x.trans y2
    refine ⟨hRW.upd x2 not_false, fun v3 u3 q3 hB3 v4 q4 => ?_⟩
    have zv := y2.size; have zv3 := u3.size; have zv4 := q4.ext.size
    have hlM : w8.heap.size ≤ l := hDl.2.1
    have ak4 := ((ak.ext x2).upd u3 hM (by rintro i rfl; exact hlM)).ext q4.ext
    have hb4 := (hb2.upd u3 (by have := zx; omega)).ext q4.ext
    have hB4 := hB3.upd q4.ext not_false
    have ua : Upd (fun i => i = l) W' v4 := (y2'.toS.trans u3 fun i hi hn => ⟨hn, hn⟩).trans q4.ext fun i hi hn => ⟨hn, not_false⟩
    have em : ((m.length : Nat) : Int).toNat = m.length := Int.toNat_natCast _
    have ej : ((j : Nat) : Int).toNat = j := Int.toNat_natCast _
    -- what is read
    obtain ⟨_, o4, t4⟩ := hAx ak4
    obtain ⟨po, jo, hpo, hjo, _⟩ := o4.nat m.length (by omega)
    have ojc : ∀ {v : World}, Ext v4 v → v.cell? (po.add m.length) = some (.int .i64 (j : Nat)) := fun x' => by
      obtain ⟨p', y', hp', hy', hc'⟩ := (o4.ext x').nat m.length (by omega)
      rw [hpo] at hp'; injection hp' with hp'; subst hp'
      rw [hj] at hy'; injection hy' with hy'; subst hy'
      exact hc'
    obtain ⟨pt, yt, hpt, hyt, _⟩ := t4.word j (by omega)
    have tjc : ∀ {v : World}, Ext v4 v → ∀ (i y : Nat), toL[i]? = some y → v.cell? (pt.add i) = some (.int .u64 (y : Nat)) := fun x' i y hy => by
      have hil := (List.getElem?_eq_some_iff.1 hy).1
      obtain ⟨p', y', hp', hy', hc'⟩ := (t4.ext x').word i (by omega)
      rw [hpt] at hp'; injection hp' with hp'; subst hp'
      rw [hy] at hy'; injection hy' with hy'; subst hy'
      rw [Nat.mul_one] at hc'
      exact hc'
    have eto : pNew (tsT ts) f Q j + 1 = k + 1 := by unfold pNew; rw [idxOf_at hL.nd hj, hkj]
    have hto_j : toL[j]? = some (k + 1) := by rw [hto j hjQ, eto]
    have x04 : Ext W0 v4 := x0.trans ak4.x
    have thc : ∀ {v : World}, Ext v4 v → v.cell? ((q.add (j * 4)).add 0) = some (.int .i64 t.K) ∧ v.cell? ((q.add (j * 4)).add 1) = some (.int .i64 t.T) ∧ v.cell? ((q.add (j * 4)).add 2) = some (.slice c.a c.n c.c) ∧ v.cell? ((q.add (j * 4)).add 3) = some (.slice mm.a mm.n mm.c) := fun x' => (hc5 _ (x04.trans x')).1
    refine ⟨fun _ => False, _, fun v u => (ak4.ki.ext u).cell 0, so, fun v u => (ak4.k2.ext u).cell 0, fun _ => ⟨st, fun v u => (ak4.k3.ext u).cell 0, so, fun v u => (ak4.k2.ext u).cell 0, _, fun v u => (ak4.ki.ext u).cell 0, by omega, by omega, po, hpo, ((j : Nat) : Int), fun v u => by rw [em]; exact ojc u, by omega, by omega, pt, hpt, ((k + 1 : Nat) : Int), fun v u => by rw [ej]; exact tjc u _ _ hto_j, fun _ => ⟨_, _, _, _, rfl, fun v u => ⟨(hb4.ext u).cell 0, (hb4.ext u).cell 1, (hb4.ext u).cell 2, (hb4.ext u).cell 3⟩,
      s, fun v u => (ak4.k1.ext u).cell 0, so, fun v u => (ak4.k2.ext u).cell 0, _, fun v u => (ak4.ki.ext u).cell 0, by omega, by omega, po, hpo, ((j : Nat) : Int), fun v u => by rw [em]; exact ojc u, by omega, by omega, q, hq, t.K, t.T, c, mm, rfl, fun v u => by rw [ej]; exact thc u, ⟨(header_spec13 hth).mono ?_⟩⟩, fun hne => absurd rfl hne⟩, fun hle => absurd hle (by omega)⟩
    rintro e v5 ⟨rfl, x5⟩
    refine ⟨_, _, _, _, rfl, x5, fun hh => ?_, fun _ v6 q6 => ?_⟩
    · rcases hh with ((hh | hh) | hh) | hh <;> exact absurd rfl hh
    have x46 := x5.trans q6.ext
    have ak6 := ak4.ext x46
    have hb6 := hb4.ext x46
    have zv6 := x46.size
    refine ⟨fun _ => False, s, fun v u => (ak6.k1.ext u).cell 0, so, fun v u => (ak6.k2.ext u).cell 0, _, fun v u => (ak6.ki.ext u).cell 0, by omega, by omega, po, hpo, ((j : Nat) : Int), fun v u => by rw [em]; exact ojc (x46.trans u), by omega, by omega, q, hq, t.K, t.T, c, mm, rfl, fun v u => by rw [ej]; exact thc (x46.trans u), fun v7 n7' => ⟨n7'.ext, rfl, (Blk.new n7').canSetN 0 4 (by simp), fun v8 s8' => ?_⟩⟩
    have zv7 := n7'.size; have zv8 := s8'.size
    have bt8 := s8'.blk (Blk.new n7')
    simp only [setsL, List.set] at bt8
    have x68' : Ext v6 v8 := n7'.ext.fresh s8'.upd (by rintro i rfl; exact Nat.le_refl _)
    have x48 := x46.trans x68'
    refine ⟨fun i W1 => ∃ a : Nat, i = (a : Nat) ∧ a ≤ lenT t ∧ Ext v8 W1, fun i _ => (lenT t - i).toNat, ⟨0, rfl, Nat.zero_le _, Ext.refl _⟩, ?_⟩
    rintro _ i v9 ⟨a, rfl, ha, x89⟩
    have x49 := x48.trans x89
    have ak9' := ak4.ext x49
    have hb9 := hb4.ext x49
    have bt9 := bt8.ext x89
    have ea : IntKind.i64.wrap ((a : Int) + 1) = ((a + 1 : Nat) : Int) := by rw [wrap_i64 (by omega) (by omega)]; omega
    rw [ea]
    refine ⟨_, hb9.cell 2, fun hal => ?_, fun hal => ?_⟩
    · refine ⟨_, ak9'.k0.cell 0, ⟨(Cell_spec (hAx ak9').1 (r := k + 1) (by omega) (i := (a : Int)) (by omega)).mono ?_⟩⟩
      rintro e v10 ⟨rfl, x10⟩
      have eC := hL.cellO hj (a := a) (by rw [eT]; omega)
      rw [eT, ← hkj] at eC
      rw [eC]
      have x8_10 := x89.trans x10
      have x4_10 := x49.trans x10
      have ak10 := ak4.ext x4_10
      have bt10 := bt8.ext x8_10
      have hb10 := hb4.ext x4_10
      refine ⟨_, _, rfl, t.K, t.T, c, mm, rfl, ⟨bt10.cell 0, bt10.cell 1, bt10.cell 2, bt10.cell 3⟩, _, _, _, _, rfl, ⟨hb10.cell 0, hb10.cell 1, hb10.cell 2, hb10.cell 3⟩, s, ak10.k1.cell 0, ⟨?_⟩⟩
      obtain ⟨_, rc10, rm10⟩ := hc5 v10 (x04.trans x4_10)
      rw [← hsn]
      refine (named_spec (N := ts.length) (i := a) hth rm10 hnb (by omega) (by omega)).mono ?_
      rintro e v11 ⟨rfl, x11⟩
      have x4_11 := x4_10.trans x11
      have ak11 := ak4.ext x4_11
      have bt11 := (bt8.ext x8_10).ext x11
      have hb11 := hb4.ext x4_11
      have go : (∃ a' : Nat, ((a + 1 : Nat) : Int) = (a' : Nat) ∧ a' ≤ lenT t ∧ Ext v8 v11) ∧ (((lenT t : Nat) : Int) - ((a + 1 : Nat) : Int)).toNat < (((lenT t : Nat) : Int) - (a : Int)).toNat := ⟨⟨a + 1, rfl, by omega, x8_10.trans x11⟩, by omega⟩
      have hto_a : ∀ k', namT ts.length t a = some k' → k' ∈ Q := fun k' hk' => hL.closed j hjQ a (by rw [eT]; omega) k' (by rw [eT]; exact hk')
      cases hnm : namT ts.length t a with
      | some k' =>
        have e1 : namI ts.length t a = (k' : Nat) := by unfold namI; rw [hnm]
        have hkN := namT_lt hnm
        rw [e1, cellV_some hnm]
        refine ⟨_, rfl, fun _ => ⟨st, ak11.k3.cell 0, by omega, by omega, pt, hpt, _, by rw [Int.toNat_natCast]; exact tjc x4_11 _ _ (hto k' (hto_a k' hnm)), fun _ => ⟨fun hne => absurd rfl hne, fun _ => go⟩, fun hne => absurd rfl hne⟩, fun hh => by omega⟩
      | none =>
        have e1 : namI ts.length t a = -1 := by unfold namI; rw [hnm]
        rw [e1, cellV_z hnm]
        have e9c : (if 9 < (c.n : Int) then (9 : Int) else (c.n : Int)) = ((cN t : Nat) : Int) := by rw [min9]; unfold cN; rw [hth.c]
        have hcl : cN t ≤ t.cs.length := by unfold cN; omega
        have hcn := hth.c
        have rc11 := rc10.ext x11
        have csa : ∀ a' : Nat, a' < t.cs.length → ∃ p, c.a = some p ∧ v11.cell? (p.add a') = some (.int .u64 ((t.cs.getD a' 0 : Nat) : Int)) := fun a' ha' => by
          obtain ⟨p, y, hp, hy, hc⟩ := rc11.word a' (by omega)
          rw [Nat.mul_one] at hc
          refine ⟨p, hp, ?_⟩
          rw [List.getD_eq_getElem?_getD, hy]; exact hc
        refine ⟨_, rfl, fun hh => absurd hh (by decide), fun _ => ⟨_, hb11.cell 0, fun h2 => ⟨_, hb11.cell 0, fun h1 => ⟨c, bt11.cell 2, fun h9 => ?_, fun h9 => ?_⟩, fun h1 => ?_⟩, fun h2 => ?_⟩⟩
        · rw [e9c] at h9
          obtain ⟨p, hp, hcp⟩ := csa a (by omega)
          refine ⟨c, bt11.cell 2, by omega, by omega, p, hp, _, by rw [Int.toNat_natCast]; exact hcp, fun _ => ⟨fun hne => ?_, fun _ => go⟩, fun hne => absurd rfl hne⟩
          unfold cellZ at hne
          rw [if_pos ⟨by rw [← ek]; omega, by omega⟩] at hne
          exact absurd rfl hne
        · rw [e9c] at h9
          refine ⟨fun _ => ⟨fun hne => ?_, fun _ => go⟩, fun hne => absurd rfl hne⟩
          unfold cellZ at hne
          rw [if_neg (by omega)] at hne
          exact absurd rfl hne
        · refine ⟨fun _ => ⟨fun hne => ?_, fun _ => go⟩, fun hne => absurd rfl hne⟩
          have h3 : kindT t = 3 := by rcases kindT_cases t with hh | hh | hh <;> omega
          unfold cellZ at hne
          rw [if_neg (fun hh => hh.1 h3)] at hne
          exact absurd rfl hne
        · have h2' : kindT t = 2 := by rw [← ek]; exact h2
          have hal2 : a < cN t := by
            have : lenT t = cN t := by unfold lenT; rw [if_neg (by omega), if_pos h2']
            omega
          obtain ⟨p, hp, hcp⟩ := csa a (by omega)
          refine ⟨c, bt11.cell 2, by omega, by omega, p, hp, _, by rw [Int.toNat_natCast]; exact hcp, fun _ => ⟨fun hne => ?_, fun _ => go⟩, fun hne => absurd rfl hne⟩
          unfold cellZ at hne
          rw [if_pos ⟨by omega, hal2⟩] at hne
          exact absurd rfl hne
    · have zv9 := x89.size
      refine ⟨_, ak9'.ki.cell 0, ak9'.ki.canSet 0 (by simp), fun v10 s10 => ?_⟩
      have ei : IntKind.i64.wrap ((m.length : Int) + 1) = ((m.length + 1 : Nat) : Int) := by rw [wrap_i64 (by omega) (by omega)]; omega
      rw [ei] at s10
      have u10 : Upd (fun i => i = w6.heap.size) v9 v10 := s10.upd
      have k10 := s10.blk1 ak9'.ki
      simp only [List.set] at k10
      refine ⟨(hB4.upd x49 not_false).upd u10 (by omega), fun v11 u11 q11 hR11 => ⟨fun h => (by cases h), fun _ => ?_⟩⟩
      have ub : Upd (fun i => i = l ∨ i = w6.heap.size) W' v11 := ((ua.trans x49 fun i _ hn => ⟨hn, not_false⟩).mono (fun i _ hn e => hn (.inl e)) |>.trans u10 fun i hi hn => ⟨hn, fun e => hn (.inr e)⟩).trans u11 fun i hi hn => ⟨hn, fun e => hn (.inl e)⟩
      have ak10 : Ak w v10 g s so st w1.heap.size w2.heap.size w3.heap.size w4.heap.size w5.heap.size w6.heap.size (m ++ [(k + 1, hdrT t)]).length := by
        rw [List.length_append, List.length_singleton]
        exact ⟨ak9'.k0.upd u10 (by omega), ak9'.k1.upd u10 (by omega), ak9'.k2.upd u10 (by omega), ak9'.k3.upd u10 (by omega), ak9'.k4.upd u10 (by omega), ak9'.kc.upd u10 (by omega), k10, ak9'.x.fresh u10 (by rintro i rfl; omega)⟩
      have hin' := hin.2.2
      have hll := hl_nat t
      refine ⟨⟨by omega, _, hPm.snoc hst, ak10.upd u11 hM (by rintro i rfl; exact hlM), (hDW.upd x not_false).upd ub (by omega), hR11⟩, _, ub, fun i hi => by omega⟩
  rintro e w10 ⟨rfl, ak10, hD10, hR10⟩
  refine ⟨_, rfl, .inl ⟨hR10, fun w11 u11 q11 => ?_⟩⟩
  have ak11 := ak10.upd u11 hM (by rintro i rfl; exact hDl.2.1)
  refine ⟨_, ak11.ki.cell 0, so, ak11.k2.cell 0, ak11.k4.canSet 0 (by simp), fun w12 s12 => ?_⟩
  have k12 := s12.blk1 ak11.k4
  simp only [List.set] at k12
  have u12 : Upd (fun i => i = w4.heap.size) w11 w12 := s12.upd
  refine ⟨fun h => h, (hD10.upd u11 (by omega)).upd u12 (by omega), fun w13 u13 q13 => ⟨_, (k12.upd u13 (by rintro (h | h); omega; exact h)).cell 0, rb (by rw [hon]; simp), (ak11.x.fresh u12 (by rintro i rfl; omega)).fresh u13 (by rintro i (rfl | h); omega; exact h.elim)⟩⟩
end Go.Proofs.Ytgbpglfieellpaa.V
