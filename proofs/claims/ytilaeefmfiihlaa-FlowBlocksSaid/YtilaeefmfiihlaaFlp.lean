/-
  Blocks, told of each by itself; codes with more behind them. No program in sight.
-/
import Derived.Test.YtilaeefmfiihlaaFlb
namespace Go.Proofs.Ytilaeefmfiihlaa.V
open Go Go.RowKit
set_option linter.unusedVariables false
set_option linter.unusedSimpArgs false
set_option linter.unusedSectionVars false
set_option maxRecDepth 100000

/-- goes on from the one ahead -/
noncomputable def stp (c : List Ins) (t : Nat) : Bool := rB c t && !ldB c t
structure EndP (c : List Ins) (i j e : Nat) : Prop where
  lt : j < e
  le : e ≤ i
  s : ∀ t, j < t → t < e → stp c t = true
  n : e = i ∨ stp c e = false
noncomputable def lds (c : List Ins) (i : Nat) : List Nat := (List.range i).filter (ldB c)
structure BkP (c : List Ins) (i N : Nat) (l : List Bk) : Prop where
  f : l.map (fun b => b.1) = lds c i
  b : ∀ b ∈ l, EndP c N b.1 b.2.1 ∧ b.2.2 = nxT c (b.2.1 - 1)
section
variable {c : List Ins} {i j e e' N t k x : Nat} {l l' : List Bk} {b b' : Bk}
theorem stp_iff : stp c t = true ↔ Rc c t ∧ ¬ Lead c t := by
  unfold stp
  rw [Bool.and_eq_true, rB_iff, Bool.not_eq_true', ← Bool.not_eq_true, ldB_iff]
theorem stp_no : stp c t = false ↔ ¬ (Rc c t ∧ ¬ Lead c t) := by rw [← stp_iff, Bool.not_eq_true]
theorem mem_lds : x ∈ lds c i ↔ x < i ∧ Lead c x := by unfold lds; rw [List.mem_filter, List.mem_range, ldB_iff]
theorem lds_sorted (c : List Ins) (i : Nat) : (lds c i).Pairwise (· < ·) := List.Pairwise.filter _ List.pairwise_lt_range
theorem lds_yes (h : Lead c i) : lds c (i + 1) = lds c i ++ [i] := by
  unfold lds
  rw [List.range_succ, List.filter_append, List.filter_cons, if_pos (ldB_iff.2 h), List.filter_nil]
theorem lds_no (h : ¬ Lead c i) : lds c (i + 1) = lds c i := by
  unfold lds
  rw [List.range_succ, List.filter_append, List.filter_cons, if_neg (fun hh => h (ldB_iff.1 hh)), List.filter_nil, List.append_nil]
theorem EndP.uniq (h : EndP c N j e) (h' : EndP c N j e') : e = e' := by
  rcases Nat.lt_trichotomy e e' with hl | hl | hl
  · rcases h.n with hn | hn
    · have := h'.le; omega
    · rw [h'.s e h.lt hl] at hn; cases hn
  · exact hl
  · rcases h'.n with hn | hn
    · have := h.le; omega
    · rw [h.s e' h'.lt hl] at hn; cases hn
theorem EndP.more (h : EndP c i j e) (hs : stp c i = false) : EndP c (i + 1) j e :=
  ⟨h.lt, Nat.le_succ_of_le h.le, h.s, .inr (h.n.elim (fun hh => hh ▸ hs) id)⟩
theorem eq_of_keys : ∀ {l l' : List Bk}, l.map (fun b => b.1) = l'.map (fun b => b.1) → (∀ b ∈ l, ∀ b' ∈ l', b.1 = b'.1 → b = b') → l = l'
  | [], [], _, _ => rfl
  | [], _ :: _, h, _ => by simp at h
  | _ :: _, [], h, _ => by simp at h
  | a :: l, a' :: l', h, hb => by
    simp at h
    rw [hb a (by simp) a' (by simp) h.1]
    congr 1
    exact eq_of_keys h.2 fun b hm b' hm' => hb b (List.mem_cons_of_mem _ hm) b' (List.mem_cons_of_mem _ hm')
theorem BkP.uniq (h : BkP c i N l) (h' : BkP c i N l') : l = l' := by
  refine eq_of_keys (h.f.trans h'.f.symm) fun b hb b' hb' e => ?_
  obtain ⟨e1, n1⟩ := h.b b hb
  obtain ⟨e2, n2⟩ := h'.b b' hb'
  obtain ⟨j, t, n⟩ := b
  obtain ⟨j', t', n'⟩ := b'
  dsimp only at *
  subst e
  obtain rfl := e1.uniq e2
  rw [n1, n2]
/-- down from one that is come to, to its leader -/
theorem down : ∀ (k : Nat), Rc c k → ∃ j, j ≤ k ∧ Lead c j ∧ ∀ t, j < t → t ≤ k → stp c t = true
  | 0, h => ⟨0, Nat.le_refl _, ⟨h, .inl rfl⟩, fun t h1 h2 => absurd h1 (by omega)⟩
  | k + 1, h => by
    by_cases hl : Lead c (k + 1)
    · exact ⟨k + 1, Nat.le_refl _, hl, fun t h1 h2 => absurd h1 (by omega)⟩
    · obtain ⟨_, h1, _⟩ := nolead h hl
      rw [Nat.add_sub_cancel] at h1
      obtain ⟨j, hj, hL, hs⟩ := down k h1
      refine ⟨j, by omega, hL, fun t h2 h3 => ?_⟩
      rcases Nat.lt_or_ge k t with h4 | h4
      · have : t = k + 1 := by omega
        subst this; exact stp_iff.2 ⟨h, hl⟩
      · exact hs t h2 h4
theorem blk_ok (c : List Ins) : ∀ (i : Nat), BkP c i i (blk c i)
  | 0 => ⟨rfl, fun b hb => absurd hb (by rw [blk]; exact List.not_mem_nil)⟩
  | i + 1 => by
    have ih := blk_ok c i
    rw [blk]
    by_cases hr : rB c i = true
    · rw [if_pos hr]
      have ri := rB_iff.1 hr
      by_cases hl : ldB c i = true
      · rw [if_pos hl, setLast_snoc]
        have li := ldB_iff.1 hl
        have hs : stp c i = false := stp_no.2 fun h => h.2 li
        refine ⟨by rw [List.map_append, ih.f, lds_yes li]; rfl, fun b hb => ?_⟩
        rw [List.mem_append, List.mem_singleton] at hb
        rcases hb with hb | rfl
        · obtain ⟨h1, h2⟩ := ih.b b hb
          exact ⟨h1.more hs, h2⟩
        · exact ⟨⟨Nat.lt_succ_self i, Nat.le_refl _, fun t h1 h2 => absurd h1 (by dsimp only at h1 h2 ⊢; omega), .inl rfl⟩, rfl⟩
      · rw [if_neg hl]
        have li : ¬ Lead c i := fun h => hl (ldB_iff.2 h)
        have h1 := blk1_ne i ri
        unfold blk1 at h1
        rw [if_neg hl] at h1
        rcases List.eq_nil_or_concat (blk c i) with e | ⟨l0, b0, e⟩
        · exact absurd e h1
        rw [List.concat_eq_append] at e
        rw [e, setLast_snoc]
        have hf := ih.f
        rw [e, List.map_append, List.map_cons, List.map_nil] at hf
        have hsrt := lds_sorted c i
        rw [← hf, List.pairwise_append] at hsrt
        have hb0 : b0.1 ∈ lds c i := by rw [← hf]; simp
        have hb0' := mem_lds.1 hb0
        have hlast : ∀ t, b0.1 < t → t < i → ¬ Lead c t := fun t h2 h3 hL => by
          have hm := mem_lds.2 ⟨h3, hL⟩
          rw [← hf, List.mem_append, List.mem_singleton] at hm
          rcases hm with hm | hm
          · have := hsrt.2.2 t hm b0.1 (by simp); omega
          · omega
        obtain ⟨j, hj, hjL, hjs⟩ := down i ri
        have hji : j ≠ i := fun e => li (e ▸ hjL)
        have hjb : j = b0.1 := by
          rcases Nat.lt_trichotomy j b0.1 with h2 | h2 | h2
          · exact absurd hb0'.2 (stp_iff.1 (hjs _ h2 (by omega))).2
          · exact h2
          · exact absurd hjL (hlast j h2 (by omega))
        subst hjb
        refine ⟨by rw [List.map_append, List.map_cons, List.map_nil, lds_no li]; exact hf, fun b hb => ?_⟩
        rw [List.mem_append, List.mem_singleton] at hb
        rcases hb with hb | rfl
        · obtain ⟨h2, h3⟩ := ih.b b (by rw [e]; exact List.mem_append_left _ hb)
          have hlt : b.1 < b0.1 := hsrt.2.2 _ (List.mem_map_of_mem hb) _ (by simp)
          refine ⟨⟨h2.lt, Nat.le_succ_of_le h2.le, h2.s, .inr ?_⟩, h3⟩
          rcases h2.n with hn | hn
          · exact absurd hb0'.2 (stp_iff.1 (h2.s b0.1 hlt (by omega))).2
          · exact hn
        · exact ⟨⟨by dsimp only; omega, Nat.le_refl _, fun t h2 h3 => hjs t h2 (Nat.le_of_lt_succ h3), .inl rfl⟩, rfl⟩
    · rw [if_neg hr]
      have ri : ¬ Rc c i := fun h => hr (rB_iff.2 h)
      refine ⟨by rw [ih.f, lds_no fun h => ri h.1], fun b hb => ?_⟩
      obtain ⟨h1, h2⟩ := ih.b b hb
      exact ⟨h1.more (stp_no.2 fun h => ri h.1), h2⟩
/-- within a block each is the one that comes behind the one ahead -/
theorem stp_next (h : stp c (k + 1) = true) : nxT c k = [k + 1] := by
  have := stp_iff.1 h
  obtain ⟨_, _, h2⟩ := nolead this.1 this.2
  exact h2
theorem BkP.rc (h : BkP c i N l) (hb : b ∈ l) (h1 : b.1 ≤ k) (h2 : k < b.2.1) : Rc c k := by
  rcases Nat.lt_or_ge b.1 k with h3 | h3
  · exact (stp_iff.1 ((h.b b hb).1.s k h3 h2)).1
  · have : k = b.1 := by omega
    subst this
    have hm : b.1 ∈ lds c i := by rw [← h.f]; exact List.mem_map_of_mem (f := fun b => b.1) hb
    exact (mem_lds.1 hm).2.1
/-- what comes behind a block leads -/
theorem BkP.behind (h : BkP c i c.length l) (hb : b ∈ l) (hn : x ∈ b.2.2) : Lead c x := by
  obtain ⟨E, e⟩ := h.b b hb
  rw [e] at hn
  have hlt := E.lt
  have hr : Rc c (b.2.1 - 1) := h.rc hb (by omega) (by omega)
  have hx := (mem_nxT.1 hn).1
  have rx : Rc c x := .step hr hn (by omega)
  refine Classical.byContradiction fun hL => ?_
  have hfx : b.2.1 - 1 + 1 = x := Classical.byContradiction fun hh => hL ⟨rx, .inr ⟨_, hn, hr, .inl hh⟩⟩
  have hex : b.2.1 = x := by omega
  rcases E.n with h1 | h1
  · omega
  · rw [hex] at h1; exact stp_no.1 h1 ⟨rx, hL⟩
/-- how many blocks hold one -/
def ins (l : List Bk) (k : Nat) : Nat := l.countP fun b => decide (b.1 ≤ k ∧ k < b.2.1)
theorem ins_cons (b : Bk) (l : List Bk) (k : Nat) : ins (b :: l) k = ins l k + if b.1 ≤ k ∧ k < b.2.1 then 1 else 0 := by
  unfold ins; rw [List.countP_cons]; simp only [decide_eq_true_eq]
theorem ins_none {l : List Bk} (h : ∀ b ∈ l, ¬ (b.1 ≤ k ∧ k < b.2.1)) : ins l k = 0 := by
  unfold ins
  rw [List.countP_eq_zero]
  intro b hb
  rw [decide_eq_true_eq]; exact h b hb
theorem ins_one : ∀ {l : List Bk}, (l.map fun b => b.1).Pairwise (· < ·) → (∀ b ∈ l, ∀ b' ∈ l, b.1 < b'.1 → b.2.1 ≤ b'.1) → b ∈ l → b.1 ≤ k → k < b.2.1 → ins l k = 1
  | [], _, _, hb, _, _ => by cases hb
  | a :: l, hp, hd, hb, h1, h2 => by
    rw [List.map_cons, List.pairwise_cons] at hp
    have hlt : ∀ x ∈ l, a.1 < x.1 := fun x hx => hp.1 _ (List.mem_map_of_mem (f := fun b => b.1) hx)
    rw [ins_cons]
    rw [List.mem_cons] at hb
    rcases hb with rfl | hb
    · rw [if_pos ⟨h1, h2⟩, ins_none]
      intro x hx hh
      have := hd b (by simp) x (List.mem_cons_of_mem _ hx) (hlt x hx)
      omega
    · have := hd a (by simp) b (List.mem_cons_of_mem _ hb) (hlt b hb)
      rw [if_neg (by omega), ins_one hp.2 (fun x hx y hy => hd x (List.mem_cons_of_mem _ hx) y (List.mem_cons_of_mem _ hy)) hb h1 h2]
theorem BkP.apart (h : BkP c i N l) (hb : b ∈ l) (hb' : b' ∈ l) (hlt : b.1 < b'.1) : b.2.1 ≤ b'.1 := by
  refine Nat.le_of_not_lt fun hh => ?_
  have hm : b'.1 ∈ lds c i := by rw [← h.f]; exact List.mem_map_of_mem (f := fun b => b.1) hb'
  exact (stp_iff.1 ((h.b b hb).1.s _ hlt hh)).2 (mem_lds.1 hm).2
theorem BkP.covers (h : BkP c c.length c.length l) (hr : Rc c k) : ins l k = 1 := by
  obtain ⟨j, hj, hL, hs⟩ := down k hr
  have hjl := Rc_lt hL.1
  have hkl := Rc_lt hr
  have hm : j ∈ l.map (fun b => b.1) := by rw [h.f]; exact mem_lds.2 ⟨hjl, hL⟩
  obtain ⟨b, hb, rfl⟩ := List.mem_map.1 hm
  refine ins_one (by rw [h.f]; exact lds_sorted _ _) (fun _ h1 _ h2 h3 => h.apart h1 h2 h3) hb hj ?_
  obtain ⟨E, _⟩ := h.b b hb
  refine Nat.lt_of_not_le fun hh => ?_
  rcases E.n with h1 | h1
  · omega
  · rw [hs _ E.lt hh] at h1; cases h1
theorem BkP.outside (h : BkP c c.length c.length l) (hr : ¬ Rc c k) : ins l k = 0 := ins_none fun b hb hh => hr (h.rc hb hh.1 hh.2)
theorem blk_len_le (c : List Ins) (i : Nat) : (blk c i).length ≤ i := by
  have := congrArg List.length (blk_ok c i).f
  rw [List.length_map] at this
  rw [this]
  unfold lds
  have := List.length_filter_le (ldB c) (List.range i)
  rwa [List.length_range] at this
end
-- codes with more behind them
structure Shut (c : List Ins) : Prop where
  ne : c ≠ []
  last : ∀ (x : Ins), c[c.length - 1]? = some x → endsT x.op = true
  in_ : ∀ (i : Nat) (x : Ins), c[i]? = some x → x.a < (c.length : Int)
section
variable {c m : List Ins} {i j k x y d : Nat}
theorem nxT_more (S : Shut c) (hi : i < c.length) : nxT (c ++ m) i = nxT c i := by
  obtain ⟨z, hz⟩ : ∃ z, c[i]? = some z := ⟨_, List.getElem?_eq_getElem hi⟩
  have hz' : (c ++ m)[i]? = some z := by rw [List.getElem?_append_left hi]; exact hz
  have key : ∀ v, v ∈ nxT (c ++ m) i ↔ v ∈ nxT c i := fun v => by
    rw [mem_nxT, mem_nxT, isNx_iff hz, isNx_iff hz', List.length_append]
    refine ⟨fun ⟨_, h⟩ => ⟨?_, h⟩, fun ⟨h1, h⟩ => ⟨by omega, h⟩⟩
    rcases h with ⟨_, h⟩ | ⟨h1, h2⟩
    · have := S.in_ i z hz; omega
    · refine Nat.lt_of_not_le fun hh => ?_
      have : i = c.length - 1 := by omega
      subst this
      rw [S.last z hz] at h1; cases h1
  have h1 : castL (nxT (c ++ m) i) = castL (nxT c i) := eq_of_sorted_mem (castL_sorted (nxT_sorted _ _)) (castL_sorted (nxT_sorted _ _)) fun v => by
    rw [mem_castL, mem_castL]
    exact ⟨fun ⟨k, h, e⟩ => ⟨k, (key k).1 h, e⟩, fun ⟨k, h, e⟩ => ⟨k, (key k).2 h, e⟩⟩
  unfold castL at h1
  exact (List.map_inj_right fun a b h => Int.ofNat.inj h).1 h1
theorem Av_more (S : Shut c) (hd : d < c.length ∨ c.length ≤ d) : Av (Eg (c ++ m)) d x → Av (Eg c) d x ∧ x < c.length := by
  have hc : 0 < c.length := List.length_pos_iff.2 S.ne
  intro h
  induction h with
  | zero h => exact ⟨.zero h, hc⟩
  | step _ e hne ih =>
    unfold Eg at e
    rw [nxT_more S ih.2] at e
    exact ⟨.step ih.1 e hne, (mem_nxT.1 e).1⟩
theorem Av_less (S : Shut c) : Av (Eg c) d x → Av (Eg (c ++ m)) d x ∧ x < c.length := by
  have hc : 0 < c.length := List.length_pos_iff.2 S.ne
  intro h
  induction h with
  | zero h => exact ⟨.zero h, hc⟩
  | step _ e hne ih =>
    refine ⟨.step ih.1 ?_ hne, (mem_nxT.1 e).1⟩
    unfold Eg
    rw [nxT_more S ih.2]; exact e
theorem Av_far {E : Nat → Nat → Prop} {d d' : Nat} (h : Av E d x) (hn : ∀ y, Av E d y → y ≠ d') : Av E d' x := by
  induction h with
  | zero h => exact .zero (hn 0 (.zero h))
  | step h e hne ih => exact .step ih e (hn _ (.step h e hne))
theorem Rc_more (S : Shut c) : Rc (c ++ m) x ↔ Rc c x := by
  unfold Rc
  constructor
  · intro h
    have h1 := (Av_more S (by omega) h).1
    refine Av_far h1 fun y hy e => ?_
    have := (Av_less (m := m) S hy).2
    omega
  · intro h
    refine Av_far (Av_less S h).1 fun y hy e => ?_
    have := (Av_more S (by omega) hy).2
    rw [List.length_append] at e; omega
theorem rB_more (S : Shut c) : rB (c ++ m) x = rB c x := by
  unfold rB; exact decide_eq_decide.2 (Rc_more S)
theorem Lead_more (S : Shut c) : Lead (c ++ m) x ↔ Lead c x := by
  unfold Lead
  rw [Rc_more S]
  refine and_congr_right fun _ => or_congr_right ?_
  constructor
  · rintro ⟨f, h1, h2, h3⟩
    have h2' := (Rc_more S).1 h2
    rw [nxT_more S (Rc_lt h2')] at h1 h3
    exact ⟨f, h1, h2', h3⟩
  · rintro ⟨f, h1, h2, h3⟩
    refine ⟨f, ?_, (Rc_more S).2 h2, ?_⟩
    · rw [nxT_more S (Rc_lt h2)]; exact h1
    · rw [nxT_more S (Rc_lt h2)]; exact h3
theorem ldB_more (S : Shut c) : ldB (c ++ m) x = ldB c x := by
  unfold ldB; exact decide_eq_decide.2 (Lead_more S)
theorem Over_more (S : Shut c) : Over (c ++ m) x y ↔ Over c x y := by
  unfold Over
  rw [Rc_more S, Rc_more S]
  refine and_congr_right fun _ => and_congr_right fun h => not_congr ?_
  exact ⟨fun h => (Av_more S (by omega) h).1, fun h => (Av_less S h).1⟩
theorem overB_more (S : Shut c) (hx : x < c.length) (hy : y < c.length) : overB (c ++ m) (x : Nat) (y : Nat) = overB c (x : Nat) (y : Nat) := by
  unfold overB
  rw [List.length_append]
  refine decide_eq_decide.2 ?_
  rw [Over_more S]
  constructor
  · rintro ⟨_, _, _, _, h⟩; exact ⟨by omega, by omega, by omega, by omega, h⟩
  · rintro ⟨_, _, _, _, h⟩; exact ⟨by omega, by omega, by omega, by omega, h⟩
theorem blk_more (S : Shut c) : ∀ (i : Nat), i ≤ c.length → blk (c ++ m) i = blk c i
  | 0, _ => by rw [blk, blk]
  | i + 1, h => by rw [blk, blk, rB_more S, ldB_more S, nxT_more S (by omega), blk_more S i (by omega)]
theorem blk_end (S : Shut c) : ∀ (j : Nat), blk (c ++ m) (c.length + j) = blk c c.length
  | 0 => blk_more S _ (Nat.le_refl _)
  | j + 1 => by
    rw [← Nat.add_assoc, blk, if_neg, blk_end S j]
    rw [rB_more S, rB_iff]
    intro h
    have := Rc_lt h; omega
end
end Go.Proofs.Ytilaeefmfiihlaa.V
