/-
  New.
-/
import Derived.Test.YtilaeefmfiihlaaFl7
namespace Go.Proofs.Ytilaeefmfiihlaa.V
open Go Go.RowKit
set_option linter.unusedVariables false
set_option linter.unusedSimpArgs false
set_option maxRecDepth 100000

/-- a graph as it is told of -/
def GF (w : World) (B g : Nat) (c : List Ins) : Prop := ∃ (bn bf br bo bd : Nat) (rb : List Bool) (ov : Nat → Option Nat) (o : Nat → Nat), GM w B g bn bf br c ⟨some ⟨bo, 0, none⟩, c.length, c.length⟩ ⟨some ⟨bd, 0, none⟩, c.length, c.length⟩ ∧ Blk w br 4 (bbv rb) ∧
  rb.length = c.length ∧ (∀ x, x < c.length → (rb[x]? = some true ↔ Rc c x)) ∧ Blk w bo 3 (ovV c.length ov) ∧ NearOk c o ov
def frP (c : List Ins) (i k : Nat) : List Nat := (List.range i).filter fun j => decide (k ∈ nxT c j)
structure NB (w w' : World) (g bn bf br : Nat) (c : List Ins) (ns fs : List Sl) (i : Nat) (fq : Nat → List Nat) : Prop where
  hd : Blk w' g 51 [.slice (some ⟨bn, 0, none⟩) c.length c.length, .slice (some ⟨bf, 0, none⟩) c.length c.length, .slice (some ⟨br, 0, none⟩) c.length c.length, .slice none 0 0, .slice none 0 0]
  N : Blk w' bn 30 (slV ns)
  F : Blk w' bf 30 (slV fs)
  R : Blk w' br 4 (bbv (List.replicate c.length false))
  nl : ns.length = c.length
  fl : fs.length = c.length
  no : ∀ (k : Nat) (s : Sl), k < i → ns[k]? = some s → Own w' w.heap.size 3 1 s (iv (castL (nxT c k)))
  nz : ∀ (k : Nat) (s : Sl), i ≤ k → ns[k]? = some s → s.a = none
  fo : ∀ (k : Nat) (s : Sl), fs[k]? = some s → Own w' w.heap.size 3 1 s (iv (castL (fq k)))
  ap : ∀ (j k : Nat) (s t : Sl), ns[j]? = some s → fs[k]? = some t → Apart s t
  af : ∀ (j k : Nat) (s t : Sl), j ≠ k → fs[j]? = some s → fs[k]? = some t → Apart s t
  nf : bn ≠ bf
  lo : w.heap.size ≤ g ∧ w.heap.size ≤ bn ∧ w.heap.size ≤ bf ∧ w.heap.size ≤ br
  x : Ext w w'
section
variable {w w' w'' : World} {g bn bf br i : Nat} {c : List Ins} {ns fs : List Sl} {fq : Nat → List Nat} {code : Sl}
theorem NB.ext (h : NB w w' g bn bf br c ns fs i fq) (u : Ext w' w'') : NB w w'' g bn bf br c ns fs i fq :=
  ⟨h.hd.ext u, h.N.ext u, h.F.ext u, h.R.ext u, h.nl, h.fl, fun k s hk hs => (h.no k s hk hs).ext u, h.nz, fun k s hs => (h.fo k s hs).ext u, h.ap, h.af, h.nf, h.lo, h.x.trans u⟩
/-- one more list of what may come behind -/
theorem NB.next (h : NB w w' g bn bf br c ns fs i fq) (hi : i < c.length) {s1 : Sl} {w1 w2 : World} (x : Ext w' w1) (o : Own w1 w'.heap.size 3 1 s1 (iv (castL (nxT c i)))) (s : SetW w1 ⟨bn, i, none⟩ [.slice s1.a s1.n s1.c] w2) : NB w w2 g bn bf br c (ns.set i s1) fs (i + 1) fq := by
  have h1 := h.ext x
  have u : Upd (fun k => k = bn) w1 w2 := s.upd
  have hsz := h.x.size
  have offn : ∀ (t : Sl) (B : Nat) (xs : List Value), Own w1 B 3 1 t xs → ∀ p, t.a = some p → ¬ p.block = bn := fun t B xs ht p hp => own_blk_ne ht h1.N (by decide) p hp
  refine ⟨h1.hd.upd u (h1.hd.ne h1.N (by decide)), ?_, h1.F.upd u h1.nf.symm, h1.R.upd u (h1.R.ne h1.N (by decide)), by rw [List.length_set]; exact h.nl, h.fl, fun k t hk ht => ?_, fun k t hk ht => ?_, fun k t ht => (h1.fo k t ht).upd u (offn _ _ _ (h1.fo k t ht)), fun j k t t' ht ht' => ?_, h.af, h.nf, h.lo, h1.x.fresh u (by rintro k rfl; exact h.lo.2.1)⟩
  · have := s.blk1 h1.N
    have e : (slV ns).set i (.slice s1.a s1.n s1.c) = slV (ns.set i s1) := by unfold slV; rw [List.map_set]
    rw [e] at this; exact this
  · rw [List.getElem?_set] at ht
    by_cases e : i = k
    · subst e
      rw [if_pos rfl, if_pos (by rw [h.nl]; exact hi)] at ht
      injection ht with ht; subst ht
      exact (o.upd u (offn _ _ _ o)).mono hsz
    · rw [if_neg e] at ht
      exact (h1.no k t (by omega) ht).upd u (offn _ _ _ (h1.no k t (by omega) ht))
  · rw [List.getElem?_set, if_neg (by omega)] at ht
    exact h.nz k t (by omega) ht
  · rw [List.getElem?_set] at ht
    by_cases e : i = j
    · subst e
      rw [if_pos rfl, if_pos (by rw [h.nl]; exact hi)] at ht
      injection ht with ht; subst ht
      intro p q hp hq
      have := (o.base p hp).1
      have := ((h.fo k t' ht').base q hq).2
      omega
    · rw [if_neg e] at ht
      exact h.ap j k t t' ht ht'
/-- one more that comes ahead -/
theorem NB.from_ (h : NB w w' g bn bf br c ns fs i fq) {y : Nat} {t t' : Sl} {j : Nat} {w1 w2 : World} (ht : fs[y]? = some t) (o : Own w1 w.heap.size 3 1 t' (iv (castL (fq y ++ [j])))) (u : Upd t.own w' w1) (hc : ∀ p, t'.a = some p → t.a = some p ∨ w'.heap.size ≤ p.block) (s : SetW w1 ⟨bf, y, none⟩ [.slice t'.a t'.n t'.c] w2) :
    NB w w2 g bn bf br c ns (fs.set y t') i (fun k => if k = y then fq y ++ [j] else fq k) := by
  have hyl : y < fs.length := (List.getElem?_eq_some_iff.1 ht).1
  have ot := h.fo y t ht
  have offT : ∀ {b T : Nat} {cs : List Value}, Blk w' b T cs → T ≠ 3 → ¬ t.own b := fun hb hT => by
    rintro ⟨p, hp, e⟩
    exact own_blk_ne ot hb hT.symm p hp e.symm
  have hd1 := h.hd.upd u (offT h.hd (by decide))
  have N1 := h.N.upd u (offT h.N (by decide))
  have F1 := h.F.upd u (offT h.F (by decide))
  have R1 := h.R.upd u (offT h.R (by decide))
  have u2 : Upd (fun k => k = bf) w1 w2 := s.upd
  have offn : ∀ (t : Sl) (B : Nat) (xs : List Value), Own w1 B 3 1 t xs → ∀ p, t.a = some p → ¬ p.block = bf := fun t B xs ht p hp => own_blk_ne ht F1 (by decide) p hp
  have keep : ∀ (t2 : Sl) (xs : List Value), Own w' w.heap.size 3 1 t2 xs → Apart t2 t → Own w2 w.heap.size 3 1 t2 xs := fun t2 xs ho hap => by
    have o1 := ho.upd u (by rintro p hp ⟨q, hq, e⟩; exact hap p q hp hq e)
    exact o1.upd u2 (offn _ _ _ o1)
  have aplift : ∀ (t2 : Sl) (xs : List Value), Own w' w.heap.size 3 1 t2 xs → Apart t2 t → Apart t2 t' := fun t2 xs ho hap p q hp hq => by
    rcases hc q hq with h1 | h1
    · exact hap p q hp h1
    · have := (ho.base p hp).2; omega
  refine ⟨hd1.upd u2 (hd1.ne F1 (by decide)), N1.upd u2 h.nf, ?_, R1.upd u2 (R1.ne F1 (by decide)), h.nl, by rw [List.length_set]; exact h.fl, fun k t2 hk ht2 => keep _ _ (h.no k t2 hk ht2) (h.ap k y t2 t ht2 ht), h.nz, fun k t2 ht2 => ?_, fun j k t2 t3 ht2 ht3 => ?_, fun j k t2 t3 hjk ht2 ht3 => ?_, h.nf, h.lo, (h.x.fresh u (by rintro k ⟨p, hp, rfl⟩; exact (ot.base p hp).1)).fresh u2 (by rintro k rfl; exact h.lo.2.2.1)⟩
  · have := s.blk1 F1
    have e : (slV fs).set y (.slice t'.a t'.n t'.c) = slV (fs.set y t') := by unfold slV; rw [List.map_set]
    rw [e] at this; exact this
  · rw [List.getElem?_set] at ht2
    by_cases e : y = k
    · subst e
      rw [if_pos rfl, if_pos hyl] at ht2
      injection ht2 with ht2; subst ht2
      rw [if_pos rfl]
      exact o.upd u2 (offn _ _ _ o)
    · rw [if_neg e] at ht2
      rw [if_neg (fun h => e h.symm)]
      exact keep _ _ (h.fo k t2 ht2) (h.af k y t2 t (fun h => e h.symm) ht2 ht)
  · rw [List.getElem?_set] at ht3
    by_cases e : y = k
    · subst e
      rw [if_pos rfl, if_pos hyl] at ht3
      injection ht3 with ht3; subst ht3
      rcases Nat.lt_or_ge j i with hj | hj
      · exact aplift _ _ (h.no j t2 hj ht2) (h.ap j y t2 t ht2 ht)
      · intro p q hp; rw [h.nz j t2 hj ht2] at hp; cases hp
    · rw [if_neg e] at ht3
      exact h.ap j k t2 t3 ht2 ht3
  · rw [List.getElem?_set] at ht2 ht3
    by_cases e : y = k
    · subst e
      rw [if_pos rfl, if_pos hyl] at ht3
      rw [if_neg (fun h => hjk h.symm)] at ht2
      injection ht3 with ht3; subst ht3
      exact aplift _ _ (h.fo j t2 ht2) (h.af j y t2 t hjk ht2 ht)
    · rw [if_neg e] at ht3
      by_cases e2 : y = j
      · subst e2
        rw [if_pos rfl, if_pos hyl] at ht2
        injection ht2 with ht2; subst ht2
        exact (aplift _ _ (h.fo k t3 ht3) (h.af k y t3 t (fun h => hjk h.symm) ht3 ht)).symm
      · rw [if_neg e2] at ht2
        exact h.af j k t2 t3 hjk ht2 ht3
theorem new_spec (h : Rd w 3 code (cdV c)) (hm : c.length ≤ 1000) :
    Calls Try.prog 13 #[.slice code.a code.n code.c] w fun e w' => ∃ g : Nat, e = .returned (.pointer (some ⟨g, 0, none⟩)) ∧ GF w' w.heap.size g c ∧ Ext w w' := by
  refine vc_13 _ _ _ ?_
  have hn := h.lenc
  simp only [eq_self, false_or, or_false, true_and, and_true, decide_eq_true_eq, decide_eq_false_iff_not, gd_st, gd_sf, exists_eq_left', exists_eq_left, Option.some.injEq, Sl.eta, Nat.reduceLeDiff, Int.reduceLE, Int.reduceLT, Int.reduceEq, Int.reduceNe, Nat.reduceMul, Nat.reduceAdd, Nat.reduceSub, Int.toNat_natCast, beq_iff_eq, bne_iff_ne, beq_eq_false_iff_ne, bne_eq_false_iff_eq, pick_and, pick_or, Bool.and_eq_true, Bool.or_eq_true, Bool.and_eq_false_iff, Bool.or_eq_false_iff, ne_eq, not_false_eq_true, Bool.not_eq_true', Bool.not_eq_false', reduceCtorEq, Nat.le_refl, Nat.zero_mul, Nat.mul_one, Nat.zero_add, Int.reduceToNat, ones, one, add_mk, Decidable.not_not, cond_true, cond_false, true_implies, false_implies, implies_true, Bool.not_true, Bool.not_false]
  let nils : List Sl := List.replicate c.length ⟨none, 0, 0⟩
  have hnils : slV nils = List.replicate c.length (Value.slice none 0 0) := by show slV (List.replicate c.length ⟨none, 0, 0⟩) = _; unfold slV; rw [List.map_replicate]
  have uT : ∀ {a b : World} {o : Obj}, NewW a o b → Upd (fun _ => True) a b := fun n => n.ext.toS
  refine ⟨fun a w' => ∃ g bn bf br, a = some ⟨g, 0, none⟩ ∧ NB w w' g bn bf br c nils nils 0 (fun _ => []), fun w0 q0 => ?_, ?_⟩
  · have z0 := q0.size
    have Jm : ∀ {bn bf br : Nat} {a3 a4 : World}, Ext w a3 → Blk a3 bn 30 (zrow [.slice none 0 0] code.n).toList → Blk a3 bf 30 (zrow [.slice none 0 0] code.n).toList → Blk a3 br 4 (zrow [.bool false] code.n).toList → bn ≠ bf → (w.heap.size ≤ bn ∧ w.heap.size ≤ bf ∧ w.heap.size ≤ br) →
        NewW a3 (.cells #[.slice (some ⟨bn, 0, none⟩) code.n code.n, .slice (some ⟨bf, 0, none⟩) code.n code.n, .slice (some ⟨br, 0, none⟩) code.n code.n, .slice none 0 0, .slice none 0 0] 51) a4 → ∃ g bn bf br, (some ⟨a3.heap.size, 0, none⟩ : Option Addr) = some ⟨g, 0, none⟩ ∧ NB w a4 g bn bf br c nils nils 0 (fun _ => []) := by
      intro bn bf br a3 a4 hx kn kf kr hne hlo n4
      rw [zrow_one, hn] at kn kf kr
      rw [hn] at n4
      have z3 := hx.size
      have hnil : ∀ (k : Nat) (s : Sl), nils[k]? = some s → s = ⟨none, 0, 0⟩ := fun k s hs => by
        have := List.mem_of_getElem? hs
        exact (List.mem_replicate.1 this).2
      have hap : ∀ s t : Sl, s = ⟨none, 0, 0⟩ → Apart s t := by
        rintro s t rfl p q hp
        cases hp
      have hb : bbv (List.replicate c.length false) = List.replicate c.length (.bool false) := by unfold bbv; rw [List.map_replicate]
      refine ⟨_, bn, bf, br, rfl, Blk.new n4, by rw [hnils]; exact kn.ext n4.ext, by rw [hnils]; exact kf.ext n4.ext, by rw [hb]; exact kr.ext n4.ext, by simp [nils], by simp [nils], fun k s hk => absurd hk (Nat.not_lt_zero _), fun k s _ hs => by rw [hnil k s hs], fun k s hs => by rw [hnil k s hs]; exact Own.nil _ _ _ _, fun j k s t hs _ => hap s t (hnil j s hs), fun j k s t _ hs _ => hap s t (hnil j s hs), hne, by omega, hx.trans n4.ext⟩
    exact ⟨fun _ => True, ⟨⟨by omega, by omega, by omega, by omega⟩, fun a1 n1 => have z1 := n1.size; ⟨uT n1, ⟨⟨by omega, by omega, by omega, by omega⟩, fun a2 n2 => have z2 := n2.size; ⟨uT n2, ⟨by omega, by omega, by omega, by omega⟩, fun a3 n3 => have z3 := n3.size; ⟨uT n3, by simp [len', wr, splice, rep], by simp [len', wr, splice, rep], fun a4 n4 => ⟨uT n4, Jm (((q0.ext.trans n1.ext).trans n2.ext).trans n3.ext) (((Blk.new n1).ext n2.ext).ext n3.ext) ((Blk.new n2).ext n3.ext) (Blk.new n3) (by omega) (by omega) n4⟩⟩⟩⟩, ⟨by omega, by omega, by omega, by omega⟩, fun a2 n2 => have z2 := n2.size; ⟨uT n2, ⟨by omega, by omega, by omega, by omega⟩, fun a3 n3 => have z3 := n3.size; ⟨uT n3, by simp [len', wr, splice, rep], by simp [len', wr, splice, rep], fun a4 n4 => ⟨uT n4, Jm (((q0.ext.trans n1.ext).trans n2.ext).trans n3.ext) (((Blk.new n1).ext n2.ext).ext n3.ext) (Blk.new n3) ((Blk.new n2).ext n3.ext) (by omega) (by omega) n4⟩⟩⟩⟩⟩, ⟨⟨by omega, by omega, by omega, by omega⟩, fun a1 n1 => have z1 := n1.size; ⟨uT n1, ⟨⟨by omega, by omega, by omega, by omega⟩, fun a2 n2 => have z2 := n2.size; ⟨uT n2, ⟨by omega, by omega, by omega, by omega⟩, fun a3 n3 => have z3 := n3.size; ⟨uT n3, by simp [len', wr, splice, rep], by simp [len', wr, splice, rep], fun a4 n4 => ⟨uT n4, Jm (((q0.ext.trans n1.ext).trans n2.ext).trans n3.ext) ((Blk.new n2).ext n3.ext) (((Blk.new n1).ext n2.ext).ext n3.ext) (Blk.new n3) (by omega) (by omega) n4⟩⟩⟩⟩, ⟨by omega, by omega, by omega, by omega⟩, fun a2 n2 => have z2 := n2.size; ⟨uT n2, ⟨by omega, by omega, by omega, by omega⟩, fun a3 n3 => have z3 := n3.size; ⟨uT n3, by simp [len', wr, splice, rep], by simp [len', wr, splice, rep], fun a4 n4 => ⟨uT n4, Jm (((q0.ext.trans n1.ext).trans n2.ext).trans n3.ext) (Blk.new n3) (((Blk.new n1).ext n2.ext).ext n3.ext) ((Blk.new n2).ext n3.ext) (by omega) (by omega) n4⟩⟩⟩⟩⟩, ⟨by omega, by omega, by omega, by omega⟩, fun a1 n1 => have z1 := n1.size; ⟨uT n1, ⟨⟨by omega, by omega, by omega, by omega⟩, fun a2 n2 => have z2 := n2.size; ⟨uT n2, ⟨by omega, by omega, by omega, by omega⟩, fun a3 n3 => have z3 := n3.size; ⟨uT n3, by simp [len', wr, splice, rep], by simp [len', wr, splice, rep], fun a4 n4 => ⟨uT n4, Jm (((q0.ext.trans n1.ext).trans n2.ext).trans n3.ext) ((Blk.new n2).ext n3.ext) (Blk.new n3) (((Blk.new n1).ext n2.ext).ext n3.ext) (by omega) (by omega) n4⟩⟩⟩⟩, ⟨by omega, by omega, by omega, by omega⟩, fun a2 n2 => have z2 := n2.size; ⟨uT n2, ⟨by omega, by omega, by omega, by omega⟩, fun a3 n3 => have z3 := n3.size; ⟨uT n3, by simp [len', wr, splice, rep], by simp [len', wr, splice, rep], fun a4 n4 => ⟨uT n4, Jm (((q0.ext.trans n1.ext).trans n2.ext).trans n3.ext) (Blk.new n3) ((Blk.new n2).ext n3.ext) (((Blk.new n1).ext n2.ext).ext n3.ext) (by omega) (by omega) n4⟩⟩⟩⟩⟩
  rintro _ a w1 ⟨g, bn, bf, br, rfl, hNB⟩
  refine ⟨fun n w' => ∃ (i : Nat) (ns fs : List Sl), n = (i : Nat) ∧ i ≤ c.length ∧ NB w w' g bn bf br c ns fs i (frP c i), fun n _ => (c.length - n).toNat, ⟨0, nils, nils, rfl, Nat.zero_le _, hNB⟩, ?_⟩
  rintro _ n w2 ⟨i, ns, fs, rfl, hi, H2⟩
  have ei : IntKind.i64.wrap ((i : Int) + 1) = ((i + 1 : Nat) : Int) := by rw [wrap_i64 (by omega) (by omega)]; omega
  rw [ei]
  refine ⟨fun hlt w3 q3 => ?_, fun hge => ?_⟩
  · have H3 := H2.ext q3.ext
    have z3 := q3.size
    have hN : nextT c (i : Nat) = castL (nxT c i) := by unfold nextT; rw [if_pos ⟨by omega, by omega⟩, Int.toNat_natCast]
    refine ⟨fun _ => False, _, rfl, ⟨some ⟨bn, 0, none⟩, c.length, c.length⟩, fun w' u => (H3.hd.ext u).cell 0, ⟨(next_spec (h.ext H3.x) hm (i : Nat)).mono ?_⟩⟩
    rintro e w4 ⟨s1, rfl, o4, x4⟩
    rw [hN] at o4
    have H4 := H3.ext x4
    refine ⟨s1, rfl, x4, by omega, by dsimp only; omega, _, rfl, by rw [Int.toNat_natCast, add_mk, Nat.zero_add]; exact H4.N.canSet i (by rw [slV_length, H4.nl]; omega), fun w5 s5 => ?_⟩
    rw [Int.toNat_natCast, add_mk, Nat.zero_add] at s5
    have H5 := H3.next (by omega) x4 o4 s5
    have hs1 : (ns.set i s1)[i]? = some s1 := by rw [List.getElem?_set_self (by rw [H3.nl]; omega)]
    have o5 := H5.no i s1 (by omega) hs1
    have hl5 := o5.rd.leni
    have hc5 : (castL (nxT c i)).length = (nxT c i).length := by unfold castL; rw [List.length_map]
    have h2 := nxT_le2 c i
    refine ⟨_, rfl, ⟨some ⟨bn, 0, none⟩, c.length, c.length⟩, H5.hd.cell 0, by omega, by dsimp only; omega, _, rfl, s1, by rw [Int.toNat_natCast, add_mk, Nat.zero_add, H5.N.cell]; exact slV_get hs1, ?_⟩
    refine ⟨fun m w' => ∃ (k : Nat) (fs' : List Sl), m = (k : Nat) ∧ k ≤ (nxT c i).length ∧ NB w w' g bn bf br c (ns.set i s1) fs' (i + 1) (fun y => frP c i y ++ if y ∈ (nxT c i).take k then [i] else []), fun m _ => ((nxT c i).length - m).toNat, ⟨0, fs, rfl, Nat.zero_le _, by simpa using H5⟩, ?_⟩
    rintro _ m w6 ⟨k, fs', rfl, hk, H6⟩
    have ek : IntKind.i64.wrap ((k : Int) + 1) = ((k + 1 : Nat) : Int) := by rw [wrap_i64 (by omega) (by omega)]; omega
    rw [ek]
    refine ⟨fun hlt6 => ?_, fun hge6 => ?_⟩
    · have o6 := H6.no i s1 (by omega) hs1
      obtain ⟨p, hp, hcp⟩ := o6.rd.2 (by omega)
      obtain ⟨y, hy⟩ : ∃ y, (nxT c i)[k]? = some y := ⟨_, List.getElem?_eq_getElem (by omega)⟩
      have hyc := hcp k (.int .i64 (y : Nat)) (by unfold iv castL; rw [List.getElem?_map, List.getElem?_map, hy]; rfl)
      have hyn := (mem_nxT.1 (List.mem_of_getElem? hy)).1
      refine ⟨by omega, hlt6, p, hp, _, by rw [Int.toNat_natCast]; exact hyc, fun w7 q7 => ?_⟩
      have H7 := H6.ext q7.ext
      have hfl := H7.fl
      obtain ⟨t, ht⟩ : ∃ t, fs'[y]? = some t := ⟨_, List.getElem?_eq_getElem (by omega)⟩
      have ot := H7.fo y t ht
      have hyt : y ∉ (nxT c i).take k := fun hmem => by
        obtain ⟨j, hj⟩ := List.mem_iff_getElem?.1 hmem
        rw [List.getElem?_take] at hj
        split at hj
        · rename_i hjk
          have hs := nxT_sorted c i
          have h1 := (List.getElem?_eq_some_iff.1 hj)
          have h3 := (List.getElem?_eq_some_iff.1 hy)
          have := List.pairwise_iff_getElem.1 hs j k h1.1 h3.1 hjk
          rw [h1.2, h3.2] at this
          omega
        · cases hj
      rw [if_neg hyt, List.append_nil] at ot
      have offT : ∀ {b T : Nat} {cs : List Value}, Blk w7 b T cs → T ≠ 3 → ¬ t.own b := fun hb hT => by
        rintro ⟨p, hp, e⟩
        exact own_blk_ne ot hb hT.symm p hp e.symm
      have frl : (castL (frP c i y)).length ≤ c.length := by
        unfold castL frP
        rw [List.length_map]
        have := List.length_filter_le (fun j => decide (y ∈ nxT c j)) (List.range i)
        rw [List.length_range] at this; omega
      have htn := ot.rd.leni
      refine ⟨t.own, _, rfl, ⟨some ⟨bf, 0, none⟩, c.length, c.length⟩, fun w' u => (H7.hd.upd u (offT H7.hd (by decide))).cell 1, _, rfl, ⟨some ⟨bf, 0, none⟩, c.length, c.length⟩, fun w' u => (H7.hd.upd u (offT H7.hd (by decide))).cell 1, by omega, by dsimp only; omega, _, rfl, t, fun w' u => by rw [Int.toNat_natCast, add_mk, Nat.zero_add, (H7.F.upd u (offT H7.F (by decide))).cell]; exact slV_get ht, fun w8 n8 => ⟨n8.ext.toS, ?_⟩⟩
      have z8 := n8.size
      have zx := H7.x.size
      have rd : Rd w8 1 ⟨some ⟨w7.heap.size, 0, none⟩, 1, 1⟩ (iv [(i : Int)]) := (Blk.new n8).rd (z := 1) (o := 0) (n := 1) (c := 1) (by simp)
      obtain ⟨t', w9, hr9, hn9, o9, u9, c9⟩ := (ot.ext n8.ext).append (t := 30) (ty := 30) tab_ok (by rfl) (by rfl) (by decide) rd (iv_ones _) (by dsimp only; omega) (by dsimp only; omega) (by omega)
      have F9 := (H7.F.ext n8.ext).upd u9 (offT H7.F (by decide))
      refine ⟨t', w9, hr9, u9, by omega, by dsimp only; omega, _, rfl, by rw [Int.toNat_natCast, add_mk, Nat.zero_add]; exact F9.canSet y (by rw [slV_length, hfl]; omega), fun w10 s10 => ⟨⟨k + 1, fs'.set y t', rfl, by omega, ?_⟩, by dsimp only; omega⟩⟩
      rw [Int.toNat_natCast, add_mk, Nat.zero_add] at s10
      have := H7.from_ (j := i) ht (t' := t') (w1 := w9) (by
        rw [if_neg hyt, List.append_nil]
        unfold castL at o9 ⊢
        rw [List.map_append, iv_append]; exact o9) (n8.ext.toS.trans u9 fun _ _ h => ⟨h, h⟩) (fun p hp => (c9 p hp).imp id fun h => by omega) s10
      have ef : (fun z => if z = y then (frP c i y ++ if y ∈ (nxT c i).take k then [i] else []) ++ [i] else frP c i z ++ if z ∈ (nxT c i).take k then [i] else []) = fun z => frP c i z ++ if z ∈ (nxT c i).take (k + 1) then [i] else [] := by
        funext z
        rw [take_snoc hy]
        by_cases e : z = y
        · subst e
          rw [if_pos rfl, if_neg hyt, List.append_nil, if_pos (by simp)]
        · rw [if_neg e]
          by_cases e2 : z ∈ (nxT c i).take k
          · rw [if_pos e2, if_pos (by simp [e2])]
          · rw [if_neg e2, if_neg (by simp [e2, e])]
      rw [ef] at this
      exact this
    · have hkl : k = (nxT c i).length := by omega
      subst hkl
      rw [List.take_length] at H6
      have ef : (fun y => frP c i y ++ if y ∈ nxT c i then [i] else []) = frP c (i + 1) := by
        funext y
        unfold frP
        rw [List.range_succ, List.filter_append, List.filter_cons, List.filter_nil]
        by_cases e : y ∈ nxT c i <;> simp [e]
      rw [ef] at H6
      exact ⟨⟨i + 1, _, _, rfl, by omega, H6⟩, by dsimp only; omega⟩
  have hic : i = c.length := by omega
  subst hic
  have G2 : GM w2 w.heap.size g bn bf br c ⟨none, 0, 0⟩ ⟨none, 0, 0⟩ := ⟨H2.hd, ⟨ns, H2.nl, H2.N, fun k s hs => H2.no k s (by rw [← H2.nl]; exact (List.getElem?_eq_some_iff.1 hs).1) hs⟩, ⟨fs, H2.fl, H2.F, fun k s hs => H2.fo k s hs⟩, H2.lo⟩
  refine ⟨(walk_spec G2 H2.R hm).mono ?_⟩
  rintro e w3 ⟨s, rows, rb, rfl, o3, RO, R3, u3⟩
  have G3 := G2.atbr H2.R u3
  refine ⟨s, rfl, ⟨(nearest_spec G3 R3 RO o3 hm).mono ?_⟩⟩
  rintro e w4 ⟨v, ov, o, bo, bd, rfl, NO, G4, R4, O4, u4⟩
  exact ⟨v, rfl, g, rfl, ⟨bn, bf, br, bo, bd, rb, ov, o, G4, R4, RO.rbl, fun x hx => (RO.rb x hx).trans (RO.mem x), O4, NO⟩, (H2.x.fresh u3 (by rintro k rfl; exact H2.lo.2.2.2)).fresh u4 (by rintro k rfl; exact H2.lo.1)⟩
end
end Go.Proofs.Ytilaeefmfiihlaa.V
