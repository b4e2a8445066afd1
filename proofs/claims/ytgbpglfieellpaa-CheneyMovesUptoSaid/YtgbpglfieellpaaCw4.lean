/-
  met.
-/
import Derived.Test.YtgbpglfieellpaaCw3
namespace Go.Proofs.Ytgbpglfieellpaa.V
open Go Go.RowKit
set_option linter.unusedVariables false
set_option linter.unusedSimpArgs false
set_option maxRecDepth 100000

def nv (l : List Nat) : List Value := l.map fun (x : Nat) => Value.int .i64 (x : Int)
@[simp] theorem nv_length (l : List Nat) : (nv l).length = l.length := by simp [nv]
theorem nv_append (a b : List Nat) : nv (a ++ b) = nv a ++ nv b := by simp [nv]
theorem nv_ones (l : List Nat) : ∀ v ∈ nv l, one v := by
  intro v hv
  obtain ⟨x, _, rfl⟩ := List.mem_map.1 hv
  trivial
theorem Rd.nat {w : World} {s : Sl} {l : List Nat} (h : Rd w 1 s (nv l)) (i : Nat) (hi : i < s.n) : ∃ p x, s.a = some p ∧ l[i]? = some x ∧ w.cell? (p.add i) = some (.int .i64 (x : Nat)) := by
  obtain ⟨p, v, hp, hv, hc⟩ := h.at1 i hi
  unfold nv at hv
  rw [List.getElem?_map] at hv
  cases hx : l[i]? with
  | none => rw [hx] at hv; cases hv
  | some x => rw [hx] at hv; injection hv with hv; subst hv; exact ⟨p, x, hp, rfl, hc⟩
theorem Rd.lenn {w : World} {s : Sl} {l : List Nat} (h : Rd w 1 s (nv l)) : l.length = s.n := by have := h.len1; rwa [nv_length] at this
theorem nodup_len : ∀ (q r : List Nat), q.Nodup → (∀ k ∈ q, k ∈ r) → q.length ≤ r.length
  | [], r, _, _ => Nat.zero_le _
  | a :: q, r, hn, h => by
    rw [List.nodup_cons] at hn
    have hm := h a (List.mem_cons_self ..)
    have e := List.length_erase_of_mem hm
    have hp : 0 < r.length := List.length_pos_of_mem hm
    have ih := nodup_len q (r.erase a) hn.2 fun k hk => by
      have : k ≠ a := fun e => hn.1 (e ▸ hk)
      exact (List.mem_erase_of_ne this).2 (h k (List.mem_cons_of_mem _ hk))
    rw [List.length_cons]; omega
def seenV (N : Nat) (q : List Nat) : List Value := (List.range N).map fun x => .bool (decide (x ∈ q))
theorem seenV_len (N : Nat) (q : List Nat) : (seenV N q).length = N := by simp [seenV]
theorem seenV_get {N x : Nat} (q : List Nat) (h : x < N) : (seenV N q)[x]? = some (.bool (decide (x ∈ q))) := by
  unfold seenV; rw [List.getElem?_map, List.getElem?_range h]; rfl
theorem seenV_nil (N : Nat) : List.replicate N (Value.bool false) = seenV N [] := by
  apply List.ext_getElem?
  intro a
  by_cases ha : a < N
  · rw [seenV_get _ ha, List.getElem?_replicate, if_pos ha]; simp
  · rw [List.getElem?_eq_none (l := seenV N []) (by rw [seenV_len]; omega), List.getElem?_eq_none (by simpa using ha)]
theorem seenV_set {N j : Nat} (q : List Nat) (h : j < N) : (seenV N q).set j (.bool true) = seenV N (q ++ [j]) := by
  apply List.ext_getElem?
  intro a
  rw [List.getElem?_set, seenV_len]
  by_cases ha : a < N
  · rw [seenV_get _ ha, seenV_get _ ha]
    by_cases he : j = a
    · subst he; rw [if_pos rfl, if_pos h]; simp
    · rw [if_neg he]
      congr 2
      simp [Ne.symm he]
  · rw [if_neg (by omega), List.getElem?_eq_none (by rw [seenV_len]; omega), List.getElem?_eq_none (by rw [seenV_len]; omega)]
/-- a list without twice the same, of things that there are -/
structure Fine (N : Nat) (q : List Nat) : Prop where
  nd : q.Nodup
  lt : ∀ j ∈ q, j < N
theorem Fine.len {N : Nat} {q : List Nat} (h : Fine N q) : q.length ≤ N := by
  have := nodup_len q (List.range N) h.nd fun k hk => List.mem_range.2 (h.lt k hk)
  simpa using this
theorem Fine.nil (N : Nat) : Fine N [] := ⟨List.nodup_nil, fun j h => by cases h⟩
theorem Fine.push {N : Nat} {q : List Nat} (h : Fine N q) {j : Nat} (hj : j < N) : Fine N (pushQ q j) := by
  unfold pushQ
  split
  · exact h
  · rename_i hq
    refine ⟨?_, fun a ha => ?_⟩
    · rw [List.nodup_append]
      refine ⟨h.nd, by simp, fun a ha b hb => ?_⟩
      rw [List.mem_singleton.1 hb]; rintro rfl; exact hq ha
    · rcases List.mem_append.1 ha with ha | ha
      · exact h.lt a ha
      · rw [List.mem_singleton.1 ha]; exact hj
section
variable {w : World}
/-- the row of what is seen, and the list -/
structure Seen (w : World) (B D N : Nat) (r : Sl) (q : List Nat) : Prop where
  own : Own w B 3 1 r (nv q)
  seen : Blk w D 4 (seenV N q)
  ne : ∀ p, r.a = some p → p.block ≠ D
  lo : B ≤ D
theorem Seen.ext {w' : World} {B D N : Nat} {r : Sl} {q : List Nat} (h : Seen w B D N r q) (x : Ext w w') : Seen w' B D N r q := ⟨h.own.ext x, h.seen.ext x, h.ne, h.lo⟩
/-- one more -/
theorem Seen.push {B D N : Nat} {r : Sl} {q : List Nat} (h : Seen w B D N r q) (hf : Fine N q) {j : Nat} (hj : j < N) (hq : j ∉ q) (hN : N ≤ 1000000) {w1 w2 : World} (s1 : SetW w ⟨D, j, none⟩ [.bool true] w1) (n2 : NewW w1 (.cells #[.int .i64 (j : Nat)] 3) w2) (W : World) (hW : Ext W w) (hB : B = W.heap.size) :
    ∃ r' w', Runs Try.prog (Builtin.append_ #[32, 32] 32 #[.slice r.a r.n r.c, .slice (some ⟨w1.heap.size, 0, none⟩) 1 1]) w2 (.slice r'.a r'.n r'.c) w' ∧ Seen w' B D N r' (pushQ q j) ∧ Ext W w' ∧ (∀ p, r'.a = some p → r.a = some p ∨ w.heap.size ≤ p.block) ∧ (∀ {k T cs}, Blk w k T cs → k ≠ D → (∀ p, r.a = some p → p.block ≠ k) → Blk w' k T cs) := by
  have hl := h.own.len1
  rw [nv_length] at hl
  have z1 := s1.size; have z2 := n2.size
  have hd := h.seen.lt
  have zW := hW.size
  have b1 := s1.blk1 h.seen
  rw [seenV_set q hj] at b1
  have hqN := hf.len
  have o1 := (h.own.upd s1.upd (fun p hp e => h.ne p hp e)).ext n2.ext
  have k2 : Rd w2 1 ⟨some ⟨w1.heap.size, 0, none⟩, 1, 1⟩ (nv [j]) := (Blk.new n2).rd (z := 1) (o := 0) (n := 1) (c := 1) (by simp)
  have hlo := h.lo
  obtain ⟨r', w', hr', hn', o', u', c'⟩ := o1.append (t := 32) (ty := 32) tab_ok (by rfl) (by rfl) (by decide) k2 (nv_ones _) (by dsimp only; omega) (by dsimp only; omega) (by omega)
  have e : pushQ q j = q ++ [j] := by unfold pushQ; rw [if_neg hq]
  rw [e]
  rw [← nv_append] at o'
  have hb := fun p hp => h.own.base p hp
  refine ⟨r', w', hr', ⟨o', (b1.ext n2.ext).upd u' (fun ⟨p, hp, e⟩ => h.ne p hp e.symm), fun p hp => ?_, hlo⟩, ?_⟩
  · rcases c' p hp with hh | hh
    · exact h.ne p hh
    · omega
  · refine ⟨?_, fun p hp => (c' p hp).imp_right (by omega), fun {k T cs} hk hkD hkr => ((hk.upd s1.upd hkD).ext n2.ext).upd u' (fun ⟨p, hp, e⟩ => hkr p hp e.symm)⟩
    have f : ∀ {v v' : World} {S : Nat → Prop}, Ext W v → Upd S v v' → (∀ i, S i → W.heap.size ≤ i) → Ext W v' := fun x u h => x.fresh u h
    refine f ((f hW s1.upd (by rintro i rfl; omega)).trans n2.ext) u' ?_
    rintro i ⟨p, hp, rfl⟩
    have := (hb p hp).1; omega
theorem met_spec {W0 : World} {s l : Sl} {ts : List Th} {fr : List Nat} (hT : ThsIs W0 s ts) (x0 : Ext W0 w) (hN : ts.length ≤ 1000) (hl : Rd w 1 l (nv fr)) (hf : ∀ j ∈ fr, j < ts.length) (hfr : fr.length ≤ 4611686018427387904) :
    Calls Try.prog 17 #[.slice s.a s.n s.c, .slice l.a l.n l.c] w fun e w' => ∃ s' Q, e = .returned (.slice s'.a s'.n s'.c) ∧ Walks (tsT ts) ts.length 0 ((fr.map some).foldl pushO []) Q ∧ Fine ts.length Q ∧ Own w' w.heap.size 3 1 s' (nv Q) ∧ Ext w w' := by
  refine vc_17 _ _ _ _ ?_
  have hn := hT.n
  have hfl := hl.lenn
  have hlb := hl.2
  simp only [eq_self, false_or, or_false, true_and, and_true, decide_eq_true_eq, decide_eq_false_iff_not, gd_st, gd_sf, exists_eq_left', exists_eq_left, Option.some.injEq, Sl.eta, Nat.reduceLeDiff, Int.reduceLE, Int.reduceLT, Int.reduceEq, Int.reduceNe, Nat.reduceMul, Nat.reduceAdd, Nat.reduceSub, Int.toNat_natCast, beq_iff_eq, bne_iff_ne, beq_eq_false_iff_ne, bne_eq_false_iff_eq, pick_and, pick_or, Bool.and_eq_true, Bool.or_eq_true, Bool.and_eq_false_iff, Bool.or_eq_false_iff, ne_eq, not_false_eq_true, Bool.not_eq_true', Bool.not_eq_false', reduceCtorEq, Nat.le_refl, Nat.zero_mul, Nat.mul_one, Nat.zero_add, Int.reduceToNat, ones, one, add_mk, Decidable.not_not, cond_true, cond_false, true_implies, false_implies, implies_true, Bool.not_true, Bool.not_false]
  refine ⟨by omega, fun w1 n1 => ?_⟩
  have z1 := n1.size
  have b1 := Blk.new n1
  rw [zrow_one, seenV_nil, ← hn] at b1
  refine ⟨fun r k w' => ∃ i q, k = (i : Nat) ∧ i ≤ fr.length ∧ q = ((fr.take i).map some).foldl pushO [] ∧ Fine ts.length q ∧ Seen w' w.heap.size w.heap.size ts.length r q ∧ Ext w w', fun _ k _ => (fr.length - k).toNat,
    ⟨0, [], rfl, Nat.zero_le _, rfl, .nil _, ⟨.nil .., b1, fun p hp => (by cases hp), Nat.le_refl _⟩, n1.ext⟩, ?_⟩
  rintro _ r k w2 ⟨i, q, rfl, hi, hq, F, S2, x2⟩
  have ei : IntKind.i64.wrap ((i : Int) + 1) = ((i + 1 : Nat) : Int) := by rw [wrap_i64 (by omega) (by omega)]; omega
  rw [ei]
  refine ⟨fun hlt => ?_, fun hge => ?_⟩
  · obtain ⟨p, j, hp, hj, hc⟩ := (hl.ext x2).nat i (by omega)
    have hjN := hf j (List.mem_of_getElem? hj)
    have hq' : pushQ q j = ((fr.take (i + 1)).map some).foldl pushO [] := by
      rw [take_snoc hj, List.map_append, List.foldl_append, ← hq]; rfl
    have fin : ∀ {r' w'}, Seen w' w.heap.size w.heap.size ts.length r' (pushQ q j) → Ext w w' → (∃ i' q', ((i + 1 : Nat) : Int) = (i' : Nat) ∧ i' ≤ fr.length ∧ q' = ((fr.take i').map some).foldl pushO [] ∧ Fine ts.length q' ∧ Seen w' w.heap.size w.heap.size ts.length r' q' ∧ Ext w w') := fun hs hx => ⟨i + 1, _, rfl, by omega, hq', F.push hjN, hs, hx⟩
    have hs := seenV_get q hjN
    refine ⟨by omega, by omega, p, hp, _, hc, by omega, by omega, _, by rw [Int.toNat_natCast, S2.seen.cell]; exact hs, fun hb => ?_, fun hb => ?_⟩
    · have hq2 : j ∉ q := of_decide_eq_false hb
      refine ⟨by omega, by omega, p, hp, _, hc, by omega, by omega, S2.seen.canSet _ (by rw [seenV_len]; omega), fun w3 s3 => ?_⟩
      rw [Int.toNat_natCast] at s3
      have hc3 : w3.cell? (p.add i) = some (.int .i64 (j : Nat)) := by
        obtain ⟨p', j', hp', hj', hc'⟩ := ((hl.ext x2).upd s3.upd (fun p' hp' e => by
          have := (hl.block (by decide) (by omega))
          obtain ⟨p2, hp2, hb2⟩ := this
          rw [hp2] at hp'; injection hp' with hp'; subst hp'
          dsimp only at e; omega)).nat i (by omega)
        rw [hp] at hp'; injection hp' with hp'; subst hp'
        rw [hj] at hj'; injection hj' with hj'; subst hj'
        exact hc'
      refine ⟨by omega, by omega, p, hp, _, hc3, fun w4 n4 => ?_⟩
      obtain ⟨r', w', hr, hs', hx, _, _⟩ := S2.push F hjN hq2 (by omega) s3 n4 w x2 rfl
      exact ⟨r', w', hr, fin hs' hx, by dsimp only; omega⟩
    · have hq2 : j ∈ q := of_decide_eq_true hb
      have e : pushQ q j = q := by unfold pushQ; rw [if_pos hq2]
      exact ⟨fin (by rw [e]; exact S2) x2, by dsimp only; omega⟩
  · rw [List.take_of_length_le (by omega)] at hq
    refine ⟨fun r k w' => ∃ i q, k = (i : Nat) ∧ i ≤ q.length ∧ (∀ Q, Walks (tsT ts) ts.length i q Q → Walks (tsT ts) ts.length 0 ((fr.map some).foldl pushO []) Q) ∧ Fine ts.length q ∧ Seen w' w.heap.size w.heap.size ts.length r q ∧ Ext w w', fun _ k _ => (ts.length - k).toNat,
      ⟨0, q, rfl, Nat.zero_le _, fun Q h => by rw [← hq]; exact h, F, S2, x2⟩, ?_⟩
    rintro _ r k w3 ⟨i, q, rfl, hi, hwk, F, S3, x3⟩
    have hrn := S3.own.len1
    rw [nv_length] at hrn
    have hFl := F.len
    refine ⟨fun hlt => ?_, fun hge => ⟨r, q, rfl, hwk q (.done (by omega)), F, S3.own, x3⟩⟩
    obtain ⟨p, j, hp, hj, hc⟩ := S3.own.rd.nat i (by omega)
    have hjN := F.lt j (List.mem_of_getElem? hj)
    obtain ⟨t, ht⟩ : ∃ t, ts[j]? = some t := ⟨_, List.getElem?_eq_getElem (by omega)⟩
    obtain ⟨q0, c, m, hq0, hth, hcb, hnb, hc5⟩ := hT.thn ht
    obtain ⟨hcs, _, _⟩ := hc5 w3 (x0.trans x3)
    refine ⟨by omega, by omega, p, hp, _, hc, by omega, by omega, q0, hq0, t.K, t.T, c, m, rfl, by rw [Int.toNat_natCast]; exact hcs, fun w4 n4 => ⟨rfl, (Blk.new n4).canSetN 0 4 (by simp), fun w5 s5 => ?_⟩⟩
    have b5 := s5.blk (Blk.new n4)
    simp only [setsL, List.set] at b5
    have x35 : Ext w3 w5 := n4.ext.fresh s5.upd (by rintro i rfl; exact Nat.le_refl _)
    have z3 := x3.size; have z4 := n4.size; have z5 := s5.size; have hs3 := S3.seen.lt
    refine ⟨t.K, t.T, c, m, rfl, ⟨b5.cell 0, b5.cell 1, b5.cell 2, b5.cell 3⟩, ⟨(header_spec13 hth).mono ?_⟩⟩
    rintro e w6 ⟨rfl, x6⟩
    refine ⟨_, _, _, _, rfl, fun w7 n7 => ⟨rfl, HB.can n7, fun w8 s8 => ?_⟩⟩
    obtain ⟨hb8, x68⟩ := HB.made (h := hdrT t) n7 s8
    have z6 := x6.size; have z68 := x68.size; have l8 := hb8.lt
    have hl18 := lenT_le t
    have ell : (hdrT t).l = ((lenT t : Nat) : Int) := hdrT_l t
    have x38 := (x35.trans x6).trans x68
    have bt8 := (b5.ext x6).ext x68
    refine ⟨fun r k w' => ∃ a q', k = (a : Nat) ∧ a ≤ lenT t ∧ q' = expandN ts.length t q a ∧ Fine ts.length q' ∧ Seen w' w.heap.size w.heap.size ts.length r q' ∧ HB w' w6.heap.size (hdrT t) ∧ Blk w' w3.heap.size 45 (thL t c m) ∧ Ext w w' ∧ (∀ p, r.a = some p → p.block ≠ w6.heap.size ∧ p.block ≠ w3.heap.size), fun _ k _ => (lenT t - k).toNat,
      ⟨0, q, rfl, Nat.zero_le _, rfl, F, S3.ext x38, hb8, bt8, x3.trans x38, fun p hp => by have := S3.own.base p hp; omega⟩, ?_⟩
    rintro _ r1 k w9 ⟨a, q', rfl, ha, hq', F', S9, hb9, bt9, x9, hr1⟩
    have ea : IntKind.i64.wrap ((a : Int) + 1) = ((a + 1 : Nat) : Int) := by rw [wrap_i64 (by omega) (by omega)]; omega
    have ei : IntKind.i64.wrap ((i : Int) + 1) = ((i + 1 : Nat) : Int) := by rw [wrap_i64 (by omega) (by omega)]; omega
    rw [ea, ei]
    refine ⟨_, hb9.cell 2, fun hal => ?_, fun hal => ⟨⟨i + 1, q', rfl, ?_, fun Q hQ => hwk Q (.step hj ?_), F', S9, x9⟩, by dsimp only; omega⟩⟩
    · refine ⟨t.K, t.T, c, m, rfl, ⟨bt9.cell 0, bt9.cell 1, bt9.cell 2, bt9.cell 3⟩, _, _, _, _, rfl, ⟨hb9.cell 0, hb9.cell 1, hb9.cell 2, hb9.cell 3⟩, ⟨?_⟩⟩
      obtain ⟨_, _, rm9⟩ := hc5 w9 (x0.trans x9)
      rw [← hn]
      refine (named_spec (N := ts.length) (i := a) hth rm9 hnb (by omega) (by omega)).mono ?_
      rintro e w10 ⟨rfl, x10⟩
      have S10 := S9.ext x10
      have eX : expandN ts.length t q (a + 1) = pushO q' (namT ts.length t a) := by rw [hq']; rfl
      cases hnm : namT ts.length t a with
      | none =>
        have e1 : namI ts.length t a = -1 := by unfold namI; rw [hnm]
        rw [e1]
        refine ⟨_, rfl, fun hh => absurd hh (by decide), fun _ => ⟨⟨a + 1, q', rfl, by omega, by rw [eX, hnm]; rfl, F', S10, hb9.ext x10, bt9.ext x10, x9.trans x10, hr1⟩, by dsimp only; omega⟩⟩
      | some k =>
        have e1 : namI ts.length t a = (k : Nat) := by unfold namI; rw [hnm]
        have hk := namT_lt hnm
        rw [e1]
        have hs := seenV_get q' hk
        refine ⟨_, rfl, fun _ => ⟨by omega, by omega, _, by rw [Int.toNat_natCast, S10.seen.cell]; exact hs, fun hb => ?_, fun hb => ?_⟩, fun hh => by omega⟩
        · have hq2 : k ∉ q' := of_decide_eq_false hb
          refine ⟨by omega, by omega, S10.seen.canSet _ (by rw [seenV_len]; omega), fun w11 s11 w12 n12 => ?_⟩
          rw [Int.toNat_natCast] at s11
          have z9 := x9.size; have z10 := x10.size; have hD := S10.lo; have hDl := n1.size; have z38 := x38.size; have z11 := s11.size; have z12 := n12.size
          have hl9 := hb9.lt; have hl9' := bt9.lt
          obtain ⟨r', w', hr, hs', hx, hc', hk'⟩ := S10.push F' hk hq2 (by omega) s11 n12 w (x9.trans x10) rfl
          refine ⟨r', w', hr, ⟨a + 1, _, rfl, by omega, by rw [eX, hnm]; rfl, F'.push hk, hs', hk' (hb9.ext x10) (by omega) (fun p hp => (hr1 p hp).1), hk' (bt9.ext x10) (by omega) (fun p hp => (hr1 p hp).2), hx, fun p hp => ?_⟩, by dsimp only; omega⟩
          rcases hc' p hp with hh | hh
          · exact hr1 p hh
          · omega
        · have hq2 : k ∈ q' := of_decide_eq_true hb
          have e : pushQ q' k = q' := by unfold pushQ; rw [if_pos hq2]
          refine ⟨⟨a + 1, q', rfl, by omega, by rw [eX, hnm]; exact e.symm, F', S10, hb9.ext x10, bt9.ext x10, x9.trans x10, hr1⟩, by dsimp only; omega⟩
    · obtain ⟨rr, hrr⟩ := expandN_pre ts.length t q a
      rw [hq', hrr, List.length_append]; omega
    · have hal' : a = lenT t := by omega
      subst hal'
      unfold expand
      rw [tsT_at ht, ← hq']
      exact hQ
end
end Go.Proofs.Ytgbpglfieellpaa.V
