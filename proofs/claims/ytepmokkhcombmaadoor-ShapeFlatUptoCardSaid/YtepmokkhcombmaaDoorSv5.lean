/-
  Rows, as the program has them; the function handed in.
-/
import Derived.Test.YtepmokkhcombmaaDoorSv4
namespace Go.Proofs.YtepmokkhcombmaaDoor.V
open Go Go.RowKit
set_option linter.unusedVariables false
set_option linter.unusedSimpArgs false
set_option linter.unusedSectionVars false
set_option maxRecDepth 100000

theorem wrap_u64mod (x : Nat) : IntKind.u64.wrap (x : Int) = ((x % 18446744073709551616 : Nat) : Int) := by
  unfold IntKind.wrap
  simp [IntKind.signed, IntKind.bits]
theorem snoc_cases {α : Type} {l : List α} {a x : α} {k : Nat} (h : (l ++ [a])[k]? = some x) : l[k]? = some x ∧ k < l.length ∨ k = l.length ∧ x = a := by
  rcases Nat.lt_or_ge k l.length with hk | hk
  · rw [List.getElem?_append_left hk] at h; exact .inl ⟨h, hk⟩
  · rw [List.getElem?_append_right hk] at h
    have : k - l.length = 0 := by
      have := (List.getElem?_eq_some_iff.1 h).1
      simp at this; omega
    rw [this] at h
    simp at h
    exact .inr ⟨by omega, h.symm⟩
/-- rows that the program made -/
def RwO (w : World) (B : Nat) (s : Sl) (R : List Rp) : Prop := ∃ q : List QR, Own w B 67 4 s (rwV q) ∧ q.length = R.length ∧ (∀ (k : Nat) (a : QR) (t : Rp), q[k]? = some a → R[k]? = some t → a.1 = t.fn ∧ a.2.1 = t.pl) ∧
  ∀ (k : Nat) (a : QR) (t : Rp), q[k]? = some a → R[k]? = some t → Own w B 49 3 a.2.2.1 (clV t.loc) ∧ Own w B 49 3 a.2.2.2 (clV t.stk)
def Rsm (R : List Rp) : Prop := R.length ≤ 1000000000000 ∧ ∀ r ∈ R, r.loc.length ≤ 1000000000000 ∧ r.stk.length ≤ 1000000000000
section
variable {w w' w1 w2 : World} {B : Nat} {K : World → Prop} {s : Sl} {R : List Rp} {S : Nat → Prop}
theorem RwO.nil (w : World) (B : Nat) : RwO w B ⟨none, 0, 0⟩ [] := ⟨[], Own.nil _ _ _ _, rfl, fun k a t h => (by simp at h), fun k a t h => (by simp at h)⟩
theorem RwO.ext (h : RwO w B s R) (u : Ext w w') : RwO w' B s R := by
  obtain ⟨q, h1, h2, h3, h4⟩ := h
  exact ⟨q, h1.ext u, h2, h3, fun k a t ha ht => ⟨(h4 k a t ha ht).1.ext u, (h4 k a t ha ht).2.ext u⟩⟩
theorem RwO.rwk (h : RwO w B s R) (hS : ∀ k, S k → k < B ∨ w.heap.size ≤ k) : RwK (fun w' => Upd S w w') s R := by
  obtain ⟨q, h1, h2, h3, h4⟩ := h
  have off : ∀ {e z : Nat} {t : Sl} {xs : List Value}, Own w B e z t xs → t.off S := fun ho p hp hs => by
    have := ho.base p hp
    rcases hS _ hs with h | h <;> omega
  exact ⟨q, h2, h3, fun w' u => ⟨(h1.upd u (off h1)).rd, fun k a t ha ht => ⟨((h4 k a t ha ht).1.upd u (off (h4 k a t ha ht).1)).rd, ((h4 k a t ha ht).2.upd u (off (h4 k a t ha ht).2)).rd⟩⟩⟩
theorem RwO.push {s' s1 s2 : Sl} {t : Rp} (h : RwO w1 B s R) (q0 : List QR) (hq : Own w1 B 67 4 s (rwV q0)) (hl : q0.length = R.length) (hf : ∀ (k : Nat) (a : QR) (t : Rp), q0[k]? = some a → R[k]? = some t → a.1 = t.fn ∧ a.2.1 = t.pl)
    (hc : ∀ (k : Nat) (a : QR) (t : Rp), q0[k]? = some a → R[k]? = some t → Own w1 B 49 3 a.2.2.1 (clV t.loc) ∧ Own w1 B 49 3 a.2.2.2 (clV t.stk))
    (o1 : Own w1 B 49 3 s1 (clV t.loc)) (o2 : Own w1 B 49 3 s2 (clV t.stk)) (o : Own w2 B 67 4 s' (rwV q0 ++ rwV [(t.fn, t.pl, s1, s2)])) (u : Upd (fun k => ∃ p, s.a = some p ∧ k = p.block) w1 w2) : RwO w2 B s' (R ++ [t]) := by
  have keep : ∀ {q : Sl} {l : List Value}, Own w1 B 49 3 q l → Own w2 B 49 3 q l := fun ho => ho.upd u (by rintro p hp ⟨p', hp', e⟩; exact own_ne hq ho (by decide) p' p hp' hp e.symm)
  refine ⟨q0 ++ [(t.fn, t.pl, s1, s2)], by rw [rwV_append]; exact o, by rw [List.length_append, List.length_append, hl]; rfl, fun k a t' ha ht => ?_, fun k a t' ha ht => ?_⟩
  · rcases snoc_cases ha with ⟨ha, hk⟩ | ⟨hk, rfl⟩
    · rw [List.getElem?_append_left (by omega)] at ht
      exact hf k a t' ha ht
    · rw [List.getElem?_append_right (by omega), ← hl, hk, Nat.sub_self] at ht
      simp at ht; subst ht
      exact ⟨rfl, rfl⟩
  · rcases snoc_cases ha with ⟨ha, hk⟩ | ⟨hk, rfl⟩
    · rw [List.getElem?_append_left (by omega)] at ht
      exact ⟨keep (hc k a t' ha ht).1, keep (hc k a t' ha ht).2⟩
    · rw [List.getElem?_append_right (by omega), ← hl, hk, Nat.sub_self] at ht
      simp at ht; subst ht
      exact ⟨keep o1, keep o2⟩
theorem lrows_spec (h : RwK K s R) (hK : ∀ w', Ext w w' → K w') (hm : Rsm R) :
    Calls Tryd.prog 11 #[.slice s.a s.n s.c] w fun e w' => ∃ sl : Sl, e = .returned (.slice sl.a sl.n sl.c) ∧ RwO w' w.heap.size sl R ∧ Ext w w' := by
  refine vc_11 _ _ _ ?_
  have hn := h.n (hK w (Ext.refl _))
  have hml := hm.1
  simp only [eq_self, false_or, or_false, true_and, and_true, decide_eq_true_eq, decide_eq_false_iff_not, gd_st, gd_sf, exists_eq_left', exists_eq_left, Option.some.injEq, Sl.eta, Nat.reduceLeDiff, Int.reduceLE, Int.reduceLT, Int.reduceEq, Int.reduceNe, Nat.reduceMul, Nat.reduceAdd, Nat.reduceSub, Int.toNat_natCast, beq_iff_eq, bne_iff_ne, beq_eq_false_iff_ne, bne_eq_false_iff_eq, pick_and, pick_or, Bool.and_eq_true, Bool.or_eq_true, Bool.and_eq_false_iff, Bool.or_eq_false_iff, ne_eq, not_false_eq_true, Bool.not_eq_true', Bool.not_eq_false', reduceCtorEq, Nat.le_refl, Nat.zero_mul, Nat.mul_one, Nat.zero_add, Int.reduceToNat, ones, one, add_mk, Decidable.not_not, cond_true, cond_false, true_implies, false_implies, implies_true, Bool.not_true, Bool.not_false]
  refine ⟨fun sl n w' => ∃ k : Nat, n = (k : Nat) ∧ k ≤ R.length ∧ RwO w' w.heap.size sl (R.take k) ∧ Ext w w', fun _ n _ => (R.length - n).toNat, ⟨0, rfl, Nat.zero_le _, RwO.nil _ _, Ext.refl _⟩, ?_⟩
  rintro _ sl n w1 ⟨k, rfl, hk, o1, x1⟩
  have ek : IntKind.i64.wrap ((k : Int) + 1) = ((k + 1 : Nat) : Int) := by rw [wrap_i64 (by omega) (by omega)]; omega
  rw [ek]
  refine ⟨fun hlt w2 q2 => ?_, fun hge => ?_⟩
  rotate_left
  · have : k = R.length := by omega
    subst this
    rw [List.take_length] at o1
    exact ⟨sl, rfl, o1, x1⟩
  obtain ⟨t, ht⟩ : ∃ t, R[k]? = some t := ⟨_, List.getElem?_eq_getElem (by omega)⟩
  obtain ⟨p, s1, s2, hp, hc⟩ := h.at_ (hK w (Ext.refl _)) ht
  have x2 := x1.trans q2.ext
  have cc := fun w' (u : Upd (fun _ => False) w2 w') => hc w' (hK _ (x2.trans u))
  obtain ⟨ml, ms⟩ := hm.2 t (List.mem_of_getElem? ht)
  simp only [Int.toNat_natCast]
  refine ⟨fun _ => False, by omega, by omega, p, hp, _, fun w' u => (cc w' u).1, by omega, by omega, p, hp, _, fun w' u => (cc w' u).2.1, by omega, by omega, p, hp, s1, fun w' u => (cc w' u).2.2.1, by omega, by omega, p, hp, s2, fun w' u => (cc w' u).2.2.2.1, ⟨(lcells_spec (cc w2 (Upd.refl _ _)).2.2.2.2.1 ml).mono ?_⟩⟩
  rintro e w3 ⟨s3, rfl, o3, x3⟩
  refine ⟨s3, rfl, x3, ⟨(lcells_spec (cc w3 x3).2.2.2.2.2 ms).mono ?_⟩⟩
  rintro e w4 ⟨s4, rfl, o4, x4⟩
  refine ⟨s4, rfl, x4, (by show 2 ≤ 4; decide), (by show 3 ≤ 4; decide), (by show 4 ≤ 4; decide), rfl, fun w5 n5 => ⟨n5.ext, ?_⟩⟩
  have z1 := x1.size
  have z2 := q2.size
  have z3 := x3.size
  have z4 := x4.size
  have z5 := n5.size
  have o5 := (((o1.ext q2.ext).ext x3).ext x4).ext n5.ext
  obtain ⟨q0, hq, hl, hf, hcl⟩ := id o5
  have hsn : sl.n = k := by
    have := hq.len
    rw [rwV_len, hl, List.length_take] at this
    omega
  have rd : Rd w5 4 ⟨some ⟨w4.heap.size, 0, none⟩, 1, 1⟩ (rwV [(t.fn, t.pl, s3, s4)]) := (Blk.new n5).rd (z := 4) (o := 0) (n := 1) (c := 1) (by simp)
  obtain ⟨s', w6, hr6, hn6, o6, u6, _⟩ := hq.append (t := 31) (ty := 31) tab_ok (by rfl) (by rfl) (by decide) rd (rwV_ones _) (by dsimp only; omega) (by dsimp only; omega) (by omega)
  have h6 := o5.push q0 hq hl hf hcl (((o3.ext x4).ext n5.ext).mono (by omega)) ((o4.ext n5.ext).mono (by omega)) o6 u6
  rw [← take_snoc ht] at h6
  exact ⟨s', w6, hr6, ⟨k + 1, rfl, by omega, h6, (((x2.trans x3).trans x4).trans n5.ext).fresh u6 (by rintro j ⟨q, hq', rfl⟩; exact (hq.base q hq').1)⟩, by omega⟩
end
/-! ### the function handed in -/
def nxtT (id b : Nat) : Nat := if (id + b) % 18446744073709551616 = 0 then id else (id + b) % 18446744073709551616
def ofT (b : Nat) (L : List Th) (id : Nat) : Ob := if b ≠ 0 then ⟨[111], [⟨true, nxtT id b, []⟩]⟩ else findT L id
section
variable {w w' w1 w2 : World} {B g r a bb th : Nat} {ts ms qs s : Sl} {txt : List UInt8} {m A : List Nat} {L : List Th} {id b : Nat}
theorem SP.ask (h : SP w B g r (some a) ts ms qs txt m A) (hA : A.length ≤ 65536) (ha : a < B) (n1 : NewW w (.cells #[.int .u64 (id : Nat)] 28) w1) :
    ∃ (s' : Sl) (w2 : World), Runs Tryd.prog (Builtin.append_ #[25, 25] 25 #[.slice qs.a qs.n qs.c, .slice (some ⟨w.heap.size, 0, none⟩) 1 1]) w1 (.slice s'.a s'.n s'.c) w2 ∧ CanSet w2 ⟨a, 0, none⟩ 1 ∧
      ∀ w3, SetW w2 ⟨a, 0, none⟩ [.slice s'.a s'.n s'.c] w3 → SP w3 B g r (some a) ts ms s' txt m (A ++ [id]) ∧ Upd (fun k => k = a ∨ B ≤ k) w w3 ∧ Kt w w3 := by
  have h1 := h.ext n1.ext
  have z0 := h.size
  have z1 := h1.size
  obtain ⟨qa, qo⟩ := h1.hq a rfl
  have hn : qs.n = A.length := by have := qo.len1; unfold uv at this; rw [List.length_map] at this; exact this.symm
  have rd : Rd w1 1 ⟨some ⟨w.heap.size, 0, none⟩, 1, 1⟩ (uv [id]) := (Blk.new n1).rd (z := 1) (o := 0) (n := 1) (c := 1) (by simp)
  obtain ⟨s', w2, hr, hrn, o2, u2, hfr⟩ := qo.append (t := 25) (ty := 25) tab_ok (by rfl) (by rfl) (by decide) rd (fun v hv => by unfold uv at hv; obtain ⟨_, _, rfl⟩ := List.mem_map.1 hv; trivial) (by dsimp only; omega) (by dsimp only; omega) (by omega)
  have e2 : uv A ++ uv [id] = uv (A ++ [id]) := by unfold uv; rw [List.map_append]
  rw [e2] at o2
  have nb : ∀ {k T : Nat} {cs : List Value}, Blk w1 k T cs → T ≠ 28 → Blk w2 k T cs := fun {k T cs} hb hT => hb.upd u2 (by rintro ⟨p, hp, e⟩; exact own_blk_ne qo hb (fun e => hT e.symm) p hp e.symm)
  have a2 := nb qa (by decide)
  have t2 : Own w2 B 5 1 ts (tv txt) := h1.ht.upd u2 (by rintro p hp ⟨q, hq, e⟩; exact own_ne h1.ht qo (by decide) p q hp hq e)
  have m2 : Own w2 B 28 1 ms (uv m) := h1.hm.upd u2 (by rintro p hp ⟨q, hq, e⟩; exact h1.hap q p hq hp e.symm)
  have g2 := nb h1.hg (by decide)
  have r2 : MapI w2 r .u64 (nF m) := h1.hr.upd u2 (by
    rintro ⟨p, hp, e⟩
    obtain ⟨g', cs, ha, _, hb, _⟩ := qo.blk (by rw [hp]; simp)
    rw [hp] at ha; injection ha with ha; subst ha
    exact h1.hr.ne hb e)
  have ap2 : Apart s' ms := fun p q hp hq => by
    rcases hfr p hp with h3 | h3
    · exact h1.hap p q h3 hq
    · have := (h1.hm.base q hq).2; omega
  refine ⟨s', w2, hr, a2.canSet 0 (by simp), fun w3 s3 => ?_⟩
  have u3 : Upd (fun k => k = a) w2 w3 := s3.upd
  have a3 : Blk w3 a 25 [.slice s'.a s'.n s'.c] := s3.blk1 a2
  refine ⟨⟨g2.upd u3 (g2.ne a2 (by decide)), t2.upd u3 (own_blk_ne t2 a2 (by decide)), m2.upd u3 (own_blk_ne m2 a2 (by decide)), ap2, fun x hx => ?_, r2.upd u3 (r2.ne a2), h.hlo, h.hgd⟩, ?_, fun k T cs hb h1' h2' h3' h4' => ?_⟩
  · injection hx with hx; subst hx
    exact ⟨a3, o2.upd u3 (own_blk_ne o2 a2 (by decide))⟩
  · have a1 : Upd (fun k => k = a ∨ B ≤ k) w w2 := Upd.trans n1.ext u2 fun i _ hn => ⟨not_false, by rintro ⟨p, hp, rfl⟩; exact hn (.inr (qo.base p hp).1)⟩
    exact a1.trans u3 fun i _ hn => ⟨hn, fun e => hn (.inl e)⟩
  · have hb2 := nb (hb.ext n1.ext) h2'
    exact hb2.upd u3 (hb2.ne a2 h4')
abbrev UA (a B : Nat) (w w' : World) : Prop := Upd (fun k => k = a ∨ B ≤ k) w w'
theorem clo_spec (h : ST w B g r (some a) txt m A) (hid : id < 18446744073709551616) (hb : b < 18446744073709551616) (hA : A.length ≤ 65536) (ha : a < B) (kb : Blk w bb 28 [.int .u64 (b : Nat)]) (kt : Blk w th 23 [.slice s.a s.n s.c]) (hbb : bb < B ∧ bb ≠ a)
    (hL : ThK (UA a B w) s L) (hm : L.length ≤ 1000000000000) (hml : ∀ t ∈ L, t.cells.length ≤ 1000000000000) :
    Calls Tryd.prog 14 #[.int .u64 (id : Nat), .pointer (some ⟨a, 0, none⟩), .pointer (some ⟨bb, 0, none⟩), .pointer (some ⟨th, 0, none⟩)] w fun e w' => ∃ sl : Sl, e = .returned (.agg #[.string (mkB (ofT b L id).lab), .slice sl.a sl.n sl.c]) ∧ Own w' w.heap.size 49 3 sl (clV (ofT b L id).cells) ∧ ST w' B g r (some a) txt m (A ++ [id]) ∧ UA a B w w' ∧ Kt w w' := by
  refine vc_14 _ _ _ _ _ _ ?_
  simp only [eq_self, false_or, or_false, true_and, and_true, decide_eq_true_eq, decide_eq_false_iff_not, gd_st, gd_sf, exists_eq_left', exists_eq_left, Option.some.injEq, Sl.eta, Nat.reduceLeDiff, Int.reduceLE, Int.reduceLT, Int.reduceEq, Int.reduceNe, Nat.reduceMul, Nat.reduceAdd, Nat.reduceSub, Int.toNat_natCast, beq_iff_eq, bne_iff_ne, beq_eq_false_iff_ne, bne_eq_false_iff_eq, pick_and, pick_or, Bool.and_eq_true, Bool.or_eq_true, Bool.and_eq_false_iff, Bool.or_eq_false_iff, ne_eq, not_false_eq_true, Bool.not_eq_true', Bool.not_eq_false', reduceCtorEq, Nat.le_refl, Nat.zero_mul, Nat.mul_one, Nat.zero_add, Int.reduceToNat, ones, one, add_mk, Decidable.not_not, cond_true, cond_false, true_implies, false_implies, implies_true, Bool.not_true, Bool.not_false]
  intro w1 n1
  obtain ⟨ts, ms, qs, P⟩ := h
  have P1 := P.ext n1.ext
  have z0 := P.size
  have z1 := n1.size
  have kO := Blk.new n1
  refine ⟨qs, (P1.hq a rfl).1.cell 0, fun w2 n2 => ?_⟩
  obtain ⟨s', w3, hr, hc3, k3⟩ := P1.ask (id := id) hA ha n2
  refine ⟨s', w3, hr, hc3, fun w4 s4 => ?_⟩
  obtain ⟨P4, u4, t4⟩ := k3 w4 s4
  have U4 : UA a B w w4 := Upd.trans n1.ext u4 fun i _ hn => ⟨not_false, hn⟩
  have T4 : Kt w w4 := fun k T cs hb h1 h2 h3 h4 => t4 k T cs (hb.ext n1.ext) h1 h2 h3 h4
  have kb4 : Blk w4 bb 28 [.int .u64 (b : Nat)] := kb.upd U4 (by rintro (h | h); exact hbb.2 h; omega)
  have kt4 := T4 _ _ _ kt (by decide) (by decide) (by decide) (by decide)
  have kO4 := t4 _ _ _ kO (by decide) (by decide) (by decide) (by decide)
  have hO : w.heap.size ≠ a := by omega
  -- the last steps
  have fin : ∀ (w5 w6 : World) (lab : List UInt8) (sl : Sl), SP w5 B g r (some a) ts ms s' txt m (A ++ [id]) → UA a B w w5 → Kt w w5 → SetW w5 ⟨w.heap.size, 0, none⟩ [.string (mkB lab), .slice sl.a sl.n sl.c] w6 → Blk w5 w.heap.size 48 [.string (mkB []), .slice none 0 0] → ∀ cs : List Cl, Own w5 w.heap.size 49 3 sl (clV cs) →
      (w6.cell? ⟨w.heap.size, 0, none⟩ = some (.string (mkB lab)) ∧ w6.cell? ⟨w.heap.size, 1, none⟩ = some (.slice sl.a sl.n sl.c)) ∧ Own w6 w.heap.size 49 3 sl (clV cs) ∧ ST w6 B g r (some a) txt m (A ++ [id]) ∧ UA a B w w6 ∧ Kt w w6 := by
    intro w5 w6 lab sl P5 U5 T5 s6 kO5 cs oc
    have kO6 : Blk w6 w.heap.size 48 [.string (mkB lab), .slice sl.a sl.n sl.c] := s6.blk kO5
    have u6 : Upd (fun k => k = w.heap.size) w5 w6 := s6.upd
    have nb : ∀ {k T : Nat} {cs : List Value}, Blk w5 k T cs → T ≠ 48 → Blk w6 k T cs := fun hb hT => hb.upd u6 (hb.ne kO5 hT)
    have no : ∀ {e z : Nat} {s : Sl} {xs : List Value} {B : Nat}, Own w5 B e z s xs → e ≠ 48 → Own w6 B e z s xs := fun ho he => ho.upd u6 (own_blk_ne ho kO5 he)
    refine ⟨⟨kO6.cell 0, kO6.cell 1⟩, no oc (by decide), ⟨ts, ms, s', nb P5.hg (by decide), no P5.ht (by decide), no P5.hm (by decide), P5.hap, fun x hx => ⟨nb (P5.hq x hx).1 (by decide), no (P5.hq x hx).2 (by decide)⟩, P5.hr.upd u6 (P5.hr.ne kO5), P5.hlo, P5.hgd⟩, U5.trans u6 fun i hi hn => ⟨hn, fun e => by omega⟩, fun k T cs hb h1 h2 h3 h4 => ?_⟩
    exact (T5 k T cs hb h1 h2 h3 h4).upd u6 (by have := hb.lt; omega)
  have mk0 : (⟨#[]⟩ : ByteArray) = mkB [] := rfl
  refine ⟨_, kb4.cell 0, fun hne => ⟨_, kb4.cell 0, fun hz => ⟨rfl, fun w5 n5 => ⟨rfl, (kO4.ext n5.ext).canSetN 0 2 (by simp), fun w6 s6 => ?_⟩⟩, fun hz => ⟨rfl, fun w5 n5 => ⟨rfl, (kO4.ext n5.ext).canSetN 0 2 (by simp), fun w6 s6 => ?_⟩⟩⟩, fun hz => ?_⟩
  · have hw : IntKind.u64.wrap ((id : Int) + (b : Int)) = (((id + b) % 18446744073709551616 : Nat) : Int) := by rw [← Int.natCast_add, wrap_u64mod]
    rw [hw] at hz
    have ho : ofT b L id = ⟨[111], [⟨true, id, []⟩]⟩ := by unfold ofT nxtT; rw [if_pos (by omega), if_pos (by omega)]
    rw [ho]
    have oc : Own w5 w.heap.size 49 3 ⟨some ⟨w4.heap.size, 0, none⟩, 1, 1⟩ (clV [⟨true, id, []⟩]) := Own.lit (z := 3) (n := 1) (cs := clV [⟨true, id, []⟩]) n5 (by have := U4.size; omega) rfl (by decide)
    obtain ⟨c6, o6, p6, u6, t6⟩ := fin w5 w6 [111] ⟨some ⟨w4.heap.size, 0, none⟩, 1, 1⟩ (P4.ext n5.ext) (U4.ext n5.ext) (fun k T cs hb h1 h2 h3 h4 => (T4 k T cs hb h1 h2 h3 h4).ext n5.ext) s6 (kO4.ext n5.ext) _ oc
    exact ⟨_, ⟨some ⟨w4.heap.size, 0, none⟩, 1, 1⟩, rfl, c6, ⟨some ⟨w4.heap.size, 0, none⟩, 1, 1⟩, rfl, o6, p6, u6, t6⟩
  · have hw : IntKind.u64.wrap ((id : Int) + (b : Int)) = (((id + b) % 18446744073709551616 : Nat) : Int) := by rw [← Int.natCast_add, wrap_u64mod]
    rw [hw] at hz n5
    have ho : ofT b L id = ⟨[111], [⟨true, (id + b) % 18446744073709551616, []⟩]⟩ := by unfold ofT nxtT; rw [if_pos (by omega), if_neg (by omega)]
    rw [ho]
    have oc : Own w5 w.heap.size 49 3 ⟨some ⟨w4.heap.size, 0, none⟩, 1, 1⟩ (clV [⟨true, (id + b) % 18446744073709551616, []⟩]) := Own.lit (z := 3) (n := 1) (cs := clV [⟨true, (id + b) % 18446744073709551616, []⟩]) n5 (by have := U4.size; omega) rfl (by decide)
    obtain ⟨c6, o6, p6, u6, t6⟩ := fin w5 w6 [111] ⟨some ⟨w4.heap.size, 0, none⟩, 1, 1⟩ (P4.ext n5.ext) (U4.ext n5.ext) (fun k T cs hb h1 h2 h3 h4 => (T4 k T cs hb h1 h2 h3 h4).ext n5.ext) s6 (kO4.ext n5.ext) _ oc
    exact ⟨_, ⟨some ⟨w4.heap.size, 0, none⟩, 1, 1⟩, rfl, c6, ⟨some ⟨w4.heap.size, 0, none⟩, 1, 1⟩, rfl, o6, p6, u6, t6⟩
  have ho : ofT b L id = findT L id := by unfold ofT; rw [if_neg (by omega)]
  rw [ho]
  have UE : ∀ {w'}, Ext w4 w' → UA a B w w' := fun x => U4.ext x
  refine ⟨s, kt4.cell 0, ⟨(find_spec (K := UA a B w) hL (fun w' x => U4.ext x) hm).mono ?_⟩⟩
  rintro e w5 ⟨s5, rfl, r5, x5⟩
  refine ⟨_, s5, rfl, fun w6 n6 => ⟨rfl, (Blk.new n6).canSetN 0 2 (by simp), fun w7 s7 w8 q8 => ?_⟩⟩
  have k7 : Blk w7 w5.heap.size 51 [.string (mkB (findT L id).lab), .slice s5.a s5.n s5.c] := s7.blk (Blk.new n6)
  have x7 : Ext w5 w7 := n6.ext.fresh s7.upd (by rintro i rfl; exact Nat.le_refl _)
  have x8 := (x5.trans x7).trans q8.ext
  have k8 := k7.ext q8.ext
  have hcl : (findT L id).cells.length ≤ 1000000000000 := by
    unfold findT
    split
    · rename_i t ht
      exact hml t (List.mem_of_find?_eq_some ht)
    · exact Nat.zero_le _
  refine ⟨fun _ => False, _, fun w' u => (k8.ext u).cell 0, s5, fun w' u => (k8.ext u).cell 1, ⟨(lcells_spec (r5 w8 (UE x8)) hcl).mono ?_⟩⟩
  rintro e w9 ⟨s9, rfl, o9, x9⟩
  have x09 := x8.trans x9
  refine ⟨s9, rfl, x9, (by show 2 ≤ 2; decide), rfl, (kO4.ext x09).canSetN 0 2 (by simp), fun w10 s10 => ?_⟩
  obtain ⟨c6, o6, p6, u6, t6⟩ := fin w9 w10 _ s9 (P4.ext x09) (UE x09) (fun k T cs hb h1 h2 h3 h4 => (T4 k T cs hb h1 h2 h3 h4).ext x09) s10 (kO4.ext x09) _ (o9.mono (by have := U4.size; have := x8.size; omega))
  exact ⟨_, s9, rfl, c6, s9, rfl, o6, p6, u6, t6⟩
end
end Go.Proofs.YtepmokkhcombmaaDoor.V
