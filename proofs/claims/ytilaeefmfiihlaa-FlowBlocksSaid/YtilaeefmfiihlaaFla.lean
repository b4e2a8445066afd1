/-
  Blocks; what must be in any case.
-/
import Derived.Test.YtilaeefmfiihlaaFl9
import Derived.Test.YtilaeefmfiihlaaVcC
namespace Go.Proofs.Ytilaeefmfiihlaa.V
open Go Go.RowKit
set_option linter.unusedVariables false
set_option linter.unusedSimpArgs false
set_option maxRecDepth 100000

theorem setLast_snoc (l : List Bk) (b : Bk) (t : Nat) (n : List Nat) : setLast (l ++ [b]) t n = l ++ [(b.1, t, n)] := by
  unfold setLast
  rw [List.getLast?_concat]
  simp
noncomputable def blk1 (c : List Ins) (i : Nat) : List Bk := if ldB c i then blk c i ++ [(i, 0, [])] else blk c i
theorem blk1_ne {c : List Ins} : ∀ (i : Nat), Rc c i → blk1 c i ≠ [] := by
  intro i
  induction i with
  | zero =>
    intro h
    unfold blk1
    rw [if_pos (ldB_iff.2 ⟨h, .inl rfl⟩)]; simp
  | succ i ih =>
    intro h
    unfold blk1
    by_cases hl : ldB c (i + 1) = true
    · rw [if_pos hl]; simp
    · rw [if_neg hl]
      obtain ⟨_, h1, _⟩ := nolead h (fun hh => hl (ldB_iff.2 hh))
      rw [Nat.add_sub_cancel] at h1
      have h2 := ih h1
      rw [blk, if_pos (rB_iff.2 h1)]
      rcases List.eq_nil_or_concat (blk1 c i) with e | ⟨l, b, e⟩
      · exact absurd e h2
      · rw [List.concat_eq_append] at e
        have e' : (if ldB c i then blk c i ++ [(i, 0, [])] else blk c i) = l ++ [b] := e
        rw [e', setLast_snoc]; simp
def bkV (ss : List (Nat × Nat × Sl)) : List Value := ss.flatMap fun q => [.int .i64 (q.1 : Nat), .int .i64 (q.2.1 : Nat), .slice q.2.2.a q.2.2.n q.2.2.c]
theorem bkV_len : ∀ c : List (Nat × Nat × Sl), (bkV c).length = c.length * 3
  | [] => rfl
  | x :: c => by
    have := bkV_len c
    unfold bkV at *
    simp only [List.flatMap_cons, List.length_append, List.length_cons, this, List.length_nil]
    omega
theorem bkV_append (a b : List (Nat × Nat × Sl)) : bkV (a ++ b) = bkV a ++ bkV b := by simp [bkV]
theorem bkV_ones (c : List (Nat × Nat × Sl)) : ∀ v ∈ bkV c, one v := by
  intro v hv
  unfold bkV at hv
  obtain ⟨x, _, hx⟩ := List.mem_flatMap.1 hv
  simp at hx
  rcases hx with rfl | rfl | rfl <;> trivial
theorem bkV_get : ∀ {c : List (Nat × Nat × Sl)} {i : Nat} {x : Nat × Nat × Sl}, c[i]? = some x → (bkV c)[i * 3]? = some (.int .i64 (x.1 : Nat)) ∧ (bkV c)[i * 3 + 1]? = some (.int .i64 (x.2.1 : Nat)) ∧ (bkV c)[i * 3 + 2]? = some (.slice x.2.2.a x.2.2.n x.2.2.c)
  | [], _, _, h => by simp at h
  | y :: c, 0, x, h => by
    simp at h; subst h
    exact ⟨rfl, rfl, rfl⟩
  | y :: c, i + 1, x, h => by
    have ih := bkV_get (c := c) (i := i) (x := x) (by simpa using h)
    have e : ∀ j, (bkV (y :: c))[j + 3]? = (bkV c)[j]? := fun j => rfl
    refine ⟨?_, ?_, ?_⟩
    · rw [show (i + 1) * 3 = i * 3 + 3 by omega, e]; exact ih.1
    · rw [show (i + 1) * 3 + 1 = (i * 3 + 1) + 3 by omega, e]; exact ih.2.1
    · rw [show (i + 1) * 3 + 2 = (i * 3 + 2) + 3 by omega, e]; exact ih.2.2
theorem bkV_set (ss : List (Nat × Nat × Sl)) (f t t' : Nat) (sl sl' : Sl) : ((bkV (ss ++ [(f, t, sl)])).set (ss.length * 3 + 1) (.int .i64 (t' : Nat))).set (ss.length * 3 + 2) (.slice sl'.a sl'.n sl'.c) = bkV (ss ++ [(f, t', sl')]) := by
  rw [bkV_append, bkV_append, List.set_append_right _ _ (by rw [bkV_len]; omega), bkV_len, show ss.length * 3 + 1 - ss.length * 3 = 1 by omega, List.set_append_right _ _ (by rw [bkV_len]; omega), bkV_len, show ss.length * 3 + 2 - ss.length * 3 = 2 by omega]
  rfl
/-- blocks in memory -/
structure BM (w : World) (W T : Nat) (s : Sl) (ss : List (Nat × Nat × Sl)) (bl : List Bk) : Prop where
  own : Own w W T 3 s (bkV ss)
  len : ss.length = bl.length
  m : ∀ (k : Nat) (q : Nat × Nat × Sl) (b : Bk), ss[k]? = some q → bl[k]? = some b → q.1 = b.1 ∧ q.2.1 = b.2.1 ∧ Own w W 3 1 q.2.2 (iv (castL b.2.2))
  ap : ∀ (j k : Nat) (q r : Nat × Nat × Sl), j ≠ k → ss[j]? = some q → ss[k]? = some r → Apart q.2.2 r.2.2
section
variable {w w' : World} {B g W T : Nat} {c : List Ins} {s : Sl} {ss : List (Nat × Nat × Sl)} {bl : List Bk}
theorem BM.sn (h : BM w W T s ss bl) : s.n = bl.length := by
  have := h.own.rd.1
  rw [bkV_len, h.len] at this; omega
theorem BM.ext (h : BM w W T s ss bl) (u : Ext w w') : BM w' W T s ss bl := ⟨h.own.ext u, h.len, fun k q b hq hb => by obtain ⟨h1, h2, h3⟩ := h.m k q b hq hb; exact ⟨h1, h2, h3.ext u⟩, h.ap⟩
theorem BM.list (h : BM w W T s ss bl) {k : Nat} {q : Nat × Nat × Sl} (hq : ss[k]? = some q) : ∃ l : List Int, Own w W 3 1 q.2.2 (iv l) := by
  obtain ⟨b, hb⟩ : ∃ b, bl[k]? = some b := ⟨_, List.getElem?_eq_getElem (by rw [← h.len]; exact (List.getElem?_eq_some_iff.1 hq).1)⟩
  exact ⟨_, (h.m k q b hq hb).2.2⟩
theorem snoc_cases {α : Type} {l : List α} {a x : α} {k : Nat} (h : (l ++ [a])[k]? = some x) : l[k]? = some x ∧ k < l.length ∨ k = l.length ∧ x = a := by
  rcases Nat.lt_or_ge k l.length with hk | hk
  · rw [List.getElem?_append_left hk] at h; exact .inl ⟨h, hk⟩
  · rw [List.getElem?_append_right hk] at h
    have : k - l.length = 0 := by
      have := (List.getElem?_eq_some_iff.1 h).1
      simp at this; omega
    rw [this] at h
    simp at h
    exact .inr ⟨by omega, h.symm⟩
theorem blocks_spec (h : GF w B g c) (hm : c.length ≤ 1000) : Calls Try.prog 22 #[.pointer (some ⟨g, 0, none⟩)] w fun e w' => ∃ (s : Sl) (ss : List (Nat × Nat × Sl)), e = .returned (.slice s.a s.n s.c) ∧ BM w' w.heap.size 42 s ss (blk c c.length) ∧ Ext w w' := by
  refine vc_22 _ _ _ ?_
  obtain ⟨bn, bf, br, bo, bd, ov, o, H⟩ := h.open_
  simp only [eq_self, false_or, or_false, true_and, and_true, decide_eq_true_eq, decide_eq_false_iff_not, gd_st, gd_sf, exists_eq_left', exists_eq_left, Option.some.injEq, Sl.eta, Nat.reduceLeDiff, Int.reduceLE, Int.reduceLT, Int.reduceEq, Int.reduceNe, Nat.reduceMul, Nat.reduceAdd, Nat.reduceSub, Int.toNat_natCast, beq_iff_eq, bne_iff_ne, beq_eq_false_iff_ne, bne_eq_false_iff_eq, pick_and, pick_or, Bool.and_eq_true, Bool.or_eq_true, Bool.and_eq_false_iff, Bool.or_eq_false_iff, ne_eq, not_false_eq_true, Bool.not_eq_true', Bool.not_eq_false', reduceCtorEq, Nat.le_refl, Nat.zero_mul, Nat.mul_one, Nat.zero_add, Int.reduceToNat, ones, one, add_mk, Decidable.not_not, cond_true, cond_false, true_implies, false_implies, implies_true, Bool.not_true, Bool.not_false]
  refine ⟨⟨some ⟨bn, 0, none⟩, c.length, c.length⟩, H.G.hd.cell 0, ?_⟩
  have blen : ∀ i, (blk c i).length ≤ i := by
    intro i
    induction i with
    | zero => exact Nat.le_refl _
    | succ i ih =>
      rw [blk]
      split
      · have : ∀ l : List Bk, (setLast l (i + 1) (nxT c i)).length ≤ l.length := fun l => by
          rcases List.eq_nil_or_concat l with rfl | ⟨l0, b, rfl⟩
          · exact Nat.le_refl _
          · rw [List.concat_eq_append, setLast_snoc]; simp
        refine Nat.le_trans (this _) ?_
        split
        · simp; exact ih
        · omega
      · omega
  refine ⟨fun s n w' => ∃ (i : Nat) (ss : List (Nat × Nat × Sl)), n = (i : Nat) ∧ i ≤ c.length ∧ BM w' w.heap.size 42 s ss (blk c i) ∧ Ext w w', fun _ n _ => (c.length - n).toNat, ⟨0, [], rfl, Nat.zero_le _, ⟨Own.nil _ _ _ _, rfl, fun k q b hq => by simp at hq, fun j k q r _ hq => by simp at hq⟩, Ext.refl _⟩, ?_⟩
  rintro _ s n w1 ⟨i, ss, rfl, hi, M1, x1⟩
  have ei : IntKind.i64.wrap ((i : Int) + 1) = ((i + 1 : Nat) : Int) := by rw [wrap_i64 (by omega) (by omega)]; omega
  rw [ei]
  refine ⟨fun hlt => ?_, fun hge => ?_⟩
  rotate_left
  · have : i = c.length := by have : ¬ ((i : Nat) : Int) < ((c.length : Nat) : Int) := hge; omega
    subst this
    exact ⟨s, ss, rfl, M1, x1⟩
  have hic : i < c.length := by have : ((i : Nat) : Int) < ((c.length : Nat) : Int) := hlt; omega
  have H1 := H.ext x1
  refine ⟨⟨some ⟨br, 0, none⟩, c.length, c.length⟩, H1.G.hd.cell 2, by omega, by dsimp only; omega, _, rfl, _, by rw [Int.toNat_natCast]; exact H1.rc hic, fun hr => ⟨⟨i + 1, ss, rfl, by omega, by rw [blk, if_neg (by rw [hr]; decide)]; exact M1, x1⟩, by dsimp only; omega⟩, fun hr => ?_⟩
  have ri := rB_iff.1 hr
  refine ⟨fun s w' => ∃ ss, BM w' w.heap.size 42 s ss (blk1 c i) ∧ Ext w w', ⟨(leads_spec (h.ext x1) hm hic).mono ?_⟩, ?_⟩
  · rintro e w2 ⟨rfl, rfl⟩
    refine ⟨_, rfl, fun hl => ⟨rfl, fun w3 n3 => ?_⟩, fun hl => ⟨ss, by unfold blk1; rw [if_neg (by rw [hl]; decide)]; exact M1, x1⟩⟩
    have z3 := n3.size
    have z1 := x1.size
    have hsn := M1.sn
    have hbl := blen i
    have rd : Rd w3 3 ⟨some ⟨w2.heap.size, 0, none⟩, 1, 1⟩ (bkV [(i, 0, ⟨none, 0, 0⟩)]) := (Blk.new n3).rd (z := 3) (o := 0) (n := 1) (c := 1) (by simp)
    obtain ⟨s', w4, hr4, hn4, o4, u4, _⟩ := (M1.own.ext n3.ext).append (t := 37) (ty := 37) tab_ok (by rfl) (by rfl) (by decide) rd (bkV_ones _) (by dsimp only; omega) (by dsimp only; omega) (by omega)
    refine ⟨s', w4, hr4, ss ++ [(i, 0, ⟨none, 0, 0⟩)], ⟨by rw [bkV_append]; exact o4, ?_, fun k q b hq hb => ?_, fun j k q r hjk hq hr' => ?_⟩, (x1.trans n3.ext).fresh u4 (by rintro k ⟨q, hq, rfl⟩; exact (M1.own.base q hq).1)⟩
    · unfold blk1; rw [if_pos hl, List.length_append, List.length_append, M1.len]; rfl
    · unfold blk1 at hb
      rw [if_pos hl] at hb
      rcases snoc_cases hq with ⟨hq, hk⟩ | ⟨hk, rfl⟩
      · rw [List.getElem?_append_left (by rw [← M1.len]; exact hk)] at hb
        obtain ⟨h1, h2, h3⟩ := M1.m k q b hq hb
        exact ⟨h1, h2, (h3.ext n3.ext).upd u4 (by rintro p hp ⟨p', hp', e⟩; exact own_ne M1.own h3 (by decide) p' p hp' hp e.symm)⟩
      · rw [List.getElem?_append_right (by rw [← M1.len]; omega), ← M1.len, hk, Nat.sub_self] at hb
        simp at hb; subst hb
        exact ⟨rfl, rfl, Own.nil _ _ _ _⟩
    · rcases snoc_cases hq with ⟨hq, _⟩ | ⟨hk, rfl⟩
      · rcases snoc_cases hr' with ⟨hr', _⟩ | ⟨hk', rfl⟩
        · exact M1.ap j k q r hjk hq hr'
        · intro p p' _ hp'; cases hp'
      · intro p p' hp; cases hp
  rintro _ s2 w2 ⟨ss2, M2, x2⟩
  rcases List.eq_nil_or_concat (blk1 c i) with e | ⟨b0, b, eb⟩
  · exact absurd e (blk1_ne i ri)
  rw [List.concat_eq_append] at eb
  have hlen2 := M2.len
  rw [eb, List.length_append, List.length_singleton] at hlen2
  rcases List.eq_nil_or_concat ss2 with e | ⟨ss0, ⟨qf, qt, qs⟩, es⟩
  · rw [e] at hlen2; simp at hlen2
  rw [List.concat_eq_append] at es
  subst es
  rw [List.length_append, List.length_singleton] at hlen2
  have hsn := M2.sn
  rw [eb, List.length_append, List.length_singleton] at hsn
  have hb1 : (blk1 c i).length ≤ i + 1 := by
    unfold blk1
    have := blen i
    split
    · simp; exact this
    · omega
  rw [eb, List.length_append, List.length_singleton] at hb1
  have e1 : IntKind.i64.wrap ((s2.n : Int) - 1) = ((ss0.length : Nat) : Int) := by rw [wrap_i64 (by omega) (by omega)]; omega
  rw [e1]
  simp only [Int.toNat_natCast]
  have H2 := H.ext x2
  obtain ⟨p, hp, _⟩ := M2.own.rd.2 (by omega)
  obtain ⟨s3, hs3, os3⟩ := H2.G.nx.get hic
  have h2 := nxT_le2 c i
  refine ⟨by omega, by omega, p, hp, ⟨some ⟨bn, 0, none⟩, c.length, c.length⟩, H2.G.hd.cell 0, by omega, by dsimp only; omega, _, rfl, s3, by rw [add_mk, Nat.zero_add]; exact hs3, ⟨(clone_spec os3.rd (fun h => by rw [(os3.none_ h).1]) (by unfold castL; rw [List.length_map]; omega)).mono ?_⟩⟩
  rintro e w3 ⟨s4, rfl, o4, x3⟩
  have M3 := M2.ext x3
  have z2 := x2.size
  refine ⟨s4, rfl, by rw [add_add]; exact M3.own.canAt hp (by omega), fun w4 st4 => ?_⟩
  rw [add_add] at st4
  obtain ⟨o5, u5⟩ := M3.own.setAt hp (by omega) st4
  refine ⟨by rw [add_add]; exact o5.canAt hp (by omega), fun w5 st5 => ?_⟩
  rw [add_add] at st5
  obtain ⟨o6, u6⟩ := o5.setAt hp (by omega) st5
  rw [bkV_set] at o6
  have pb := M2.own.base p hp
  have keep : ∀ (t : Sl) (W' : Nat) (l : List Value), Own w3 W' 3 1 t l → Own w5 W' 3 1 t l := fun t W' l ho => by
    have hne : ∀ q, t.a = some q → ¬ q.block = p.block := fun q hq e => own_ne M3.own ho (by decide) p q hp hq e.symm
    exact (ho.upd u5 hne).upd u6 hne
  refine ⟨⟨i + 1, ss0 ++ [(qf, i + 1, s4)], rfl, by omega, ⟨o6, ?_, fun k q b' hq hb => ?_, fun j k q r hjk hq hr' => ?_⟩, ((x2.trans x3).fresh u5 (by rintro k rfl; exact pb.1)).fresh u6 (by rintro k rfl; exact pb.1)⟩, by omega⟩
  · rw [blk, if_pos hr]
    have e' : (if ldB c i then blk c i ++ [(i, 0, [])] else blk c i) = b0 ++ [b] := eb
    rw [e', setLast_snoc, List.length_append, List.length_append, List.length_singleton, List.length_singleton]; omega
  · rw [blk, if_pos hr] at hb
    have e' : (if ldB c i then blk c i ++ [(i, 0, [])] else blk c i) = b0 ++ [b] := eb
    rw [e', setLast_snoc] at hb
    rcases snoc_cases hq with ⟨hq, hk⟩ | ⟨hk, rfl⟩
    · rw [List.getElem?_append_left (by omega)] at hb
      obtain ⟨h1, h2, h3⟩ := M3.m k q b' (snoc_get hq) (by rw [eb]; exact snoc_get hb)
      exact ⟨h1, h2, keep _ _ _ h3⟩
    · rw [List.getElem?_append_right (by omega), show k - b0.length = 0 by omega] at hb
      simp at hb; subst hb
      obtain ⟨h1, _, _⟩ := M3.m k (qf, qt, qs) b (by rw [hk]; simp) (by rw [eb, hk, show ss0.length = b0.length by omega]; simp)
      exact ⟨h1, rfl, (keep _ _ _ o4).mono (by omega)⟩
  · have fresh : ∀ {k : Nat} {q : Nat × Nat × Sl}, ss0[k]? = some q → Apart q.2.2 s4 := fun {k q} hq p1 p2 h1 h2' => by
      obtain ⟨l, ho⟩ := M2.list (snoc_get hq)
      have := (ho.base p1 h1).2
      have := (o4.base p2 h2').1
      omega
    rcases snoc_cases hq with ⟨hq, _⟩ | ⟨hk, rfl⟩
    · rcases snoc_cases hr' with ⟨hr', _⟩ | ⟨hk', rfl⟩
      · exact M3.ap j k q r hjk (snoc_get hq) (snoc_get hr')
      · exact fresh hq
    · rcases snoc_cases hr' with ⟨hr', _⟩ | ⟨hk', rfl⟩
      · exact (fresh hr').symm
      · omega
end
end Go.Proofs.Ytilaeefmfiihlaa.V
