/-
  Collecting: what visit and scan do.
  Collecting: roots that visit a list; Collect.
-/
import Derived.Test.YtggpomialmpgoaaArB
import Derived.Test.YtggpomialmpgoaaVcC
namespace Go.Proofs.Ytggpomialmpgoaa.V
open Go Go.RowKit
set_option linter.unusedVariables false
set_option linter.unusedSimpArgs false
set_option maxRecDepth 100000

/-- an arena, and the first fault -/
abbrev St := Ar × Int
def visitT (s : St) (r : Nat) : St × Nat := if (copyT s.1 r).2.2 = 0 then (((copyT s.1 r).1, s.2), (copyT s.1 r).2.1) else (((copyT s.1 r).1, 21), r)
def scanN (h : Hd) (r : Nat) : Nat → St → St
  | 0, s => s
  | i + 1, s =>
    if refT h i = true then
      ((setO (visitT (scanN h r i s) (cellO (scanN h r i s).1 r i).1).1.1 r i (visitT (scanN h r i s) (cellO (scanN h r i s).1 r i).1).2).1, (visitT (scanN h r i s) (cellO (scanN h r i s).1 r i).1).1.2)
    else scanN h r i s
def scanT (s : St) (r : Nat) : St := scanN ((headT s.1 r).getD hd0) r ((headT s.1 r).getD hd0).l.toNat s
def scanAll : Nat → St → Nat × Bool → St
  | 0, s, _ => s
  | k + 1, s, p => if p.2 = true then scanAll k (scanT s p.1) (afterT (scanT s p.1).1 p.1) else s
def visitsT : St → List Nat → St × List Nat
  | s, [] => (s, [])
  | s, r :: l => ((visitsT (visitT s r).1 l).1, (visitT s r).2 :: (visitsT (visitT s r).1 l).2)
/-- all of it, of an arena that is not open -/
def collectT (A : Ar) (l : List Nat) (zero : Bool) : Ar × List Nat × Int :=
  let v := visitsT ((openT A).1, 0) l
  let s := scanAll (2 * A.n + 1) v.1 (afterT v.1.1 0)
  ((closeT s.1 zero).1, v.2, s.2)
theorem cellO_lt {A : Ar} (h : A.Ok) (r : Nat) (i : Int) : (cellO A r i).1 < 18446744073709551616 := by
  unfold cellO
  split
  · rename_i j hj
    dsimp only
    rw [List.getD_eq_getElem?_getD]
    cases hx : A.ws[j]? with
    | none => decide
    | some x => exact h.lt x (List.mem_of_getElem? hx)
  · exact Nat.zero_lt_succ _
theorem copyT_lt {A : Ar} (h : A.Ok) (r : Nat) : (copyT A r).2.1 < 18446744073709551616 := by
  have h1 := h.nxtIn; have hn := h.n
  unfold copyT
  split
  · exact Nat.zero_lt_succ _
  split
  · exact Nat.zero_lt_succ _
  split
  · exact Nat.zero_lt_succ _
  split
  · rename_i h4
    dsimp only
    have : A.ws.getD (r - 1) 0 < 18446744073709551616 := by
      rw [List.getD_eq_getElem?_getD]
      cases hx : A.ws[r - 1]? with
      | none => decide
      | some x => exact h.lt x (List.mem_of_getElem? hx)
    omega
  split
  · exact Nat.zero_lt_succ _
  · split
    · exact Nat.zero_lt_succ _
    · dsimp only; omega
theorem visitT_lt {s : St} (h : s.1.Ok) {r : Nat} (hr : r < 18446744073709551616) : (visitT s r).2 < 18446744073709551616 := by
  unfold visitT
  split
  · exact copyT_lt h r
  · exact hr
theorem visitT_ok {s : St} (h : s.1.Ok) (r : Nat) : (visitT s r).1.1.Ok := by
  unfold visitT
  split <;> exact copyT_ok h r
theorem setO_ok {A : Ar} (h : A.Ok) {r : Nat} {i : Int} {x : Nat} (hx : x < 18446744073709551616) : (setO A r i x).1.Ok := by
  unfold setO
  split
  · exact h.put hx
  · exact h
theorem scanN_ok {s : St} (h : s.1.Ok) (hd : Hd) (r : Nat) : ∀ i, (scanN hd r i s).1.Ok
  | 0 => h
  | i + 1 => by
    have ih := scanN_ok h hd r i
    unfold scanN
    split
    · exact setO_ok (visitT_ok ih _) (visitT_lt ih (cellO_lt ih _ _))
    · exact ih
/-- what stays while objects are moved -/
structure SameA (A B : Ar) : Prop where
  n : B.n = A.n
  use : B.use = A.use
  opn : B.opn = A.opn
  f : B.nxt.f = A.nxt.f
theorem SameA.refl (A : Ar) : SameA A A := ⟨rfl, rfl, rfl, rfl⟩
theorem SameA.trans {A B C : Ar} (h : SameA A B) (k : SameA B C) : SameA A C := ⟨k.n.trans h.n, k.use.trans h.use, k.opn.trans h.opn, k.f.trans h.f⟩
theorem copyT_same (A : Ar) (r : Nat) : SameA A (copyT A r).1 := by
  unfold copyT
  split
  · exact .refl A
  split
  · exact .refl A
  split
  · exact .refl A
  split
  · exact .refl A
  split
  · exact .refl A
  · split
    · exact .refl A
    · exact ⟨rfl, rfl, rfl, rfl⟩
theorem visitT_same (s : St) (r : Nat) : SameA s.1 (visitT s r).1.1 := by
  unfold visitT
  split <;> exact copyT_same s.1 r
theorem setO_same (A : Ar) (r : Nat) (i : Int) (x : Nat) : SameA A (setO A r i x).1 := by
  unfold setO
  split
  · exact ⟨rfl, rfl, rfl, rfl⟩
  · exact .refl A
theorem scanN_same (s : St) (hd : Hd) (r : Nat) : ∀ i, SameA s.1 (scanN hd r i s).1
  | 0 => .refl _
  | i + 1 => by
    unfold scanN
    split
    · exact ((scanN_same s hd r i).trans (visitT_same _ _)).trans (setO_same _ _ _ _)
    · exact scanN_same s hd r i
theorem visitsT_ok : ∀ (l : List Nat) (s : St), s.1.Ok → (visitsT s l).1.1.Ok
  | [], _, h => h
  | r :: l, s, h => visitsT_ok l _ (visitT_ok h r)
theorem visitsT_same : ∀ (l : List Nat) (s : St), SameA s.1 (visitsT s l).1.1
  | [], s => .refl _
  | r :: l, s => (visitT_same s r).trans (visitsT_same l _)
theorem visitsT_snoc : ∀ (l : List Nat) (s : St) (r : Nat), visitsT s (l ++ [r]) = ((visitT (visitsT s l).1 r).1, (visitsT s l).2 ++ [(visitT (visitsT s l).1 r).2])
  | [], s, r => rfl
  | x :: l, s, r => by
    show visitsT s (x :: (l ++ [r])) = _
    unfold visitsT
    rw [visitsT_snoc l (visitT s x).1 r]
    rfl
theorem visitsT_len : ∀ (l : List Nat) (s : St), (visitsT s l).2.length = l.length
  | [], s => rfl
  | x :: l, s => congrArg (· + 1) (visitsT_len l _)
theorem visitsT_lt : ∀ (l : List Nat) (s : St), s.1.Ok → (∀ x ∈ l, x < 18446744073709551616) → ∀ x ∈ (visitsT s l).2, x < 18446744073709551616
  | [], s, _, _ => fun x hx => by cases hx
  | r :: l, s, h, hl => fun x hx => by
    rcases List.mem_cons.1 hx with rfl | hx
    · exact visitT_lt h (hl r (List.mem_cons_self ..))
    · exact visitsT_lt l _ (visitT_ok h r) (fun y hy => hl y (List.mem_cons_of_mem _ hy)) x hx
/-- the closure's variables: over, the arena, the first fault -/
structure Cl (w : World) (c0 c1 c2 g : Nat) (ov : Bool) (f : Int) : Prop where
  ov : Blk w c0 4 [.bool ov]
  ar : Blk w c1 29 [.pointer (some ⟨g, 0, none⟩)]
  first : Blk w c2 26 [.int .i64 f]
theorem Cl.upd {w w' : World} {c0 c1 c2 g : Nat} {ov : Bool} {f : Int} {S : Nat → Prop} (h : Cl w c0 c1 c2 g ov f) (u : Upd S w w') (h0 : ¬ S c0) (h1 : ¬ S c1) (h2 : ¬ S c2) : Cl w' c0 c1 c2 g ov f :=
  ⟨h.ov.upd u h0, h.ar.upd u h1, h.first.upd u h2⟩
theorem Cl.ext {w w' : World} {c0 c1 c2 g : Nat} {ov : Bool} {f : Int} (h : Cl w c0 c1 c2 g ov f) (x : Ext w w') : Cl w' c0 c1 c2 g ov f := h.upd x not_false not_false not_false
abbrev cloV (c0 c1 c2 : Nat) : Value := .func (.func 52) #[] #[.pointer (some ⟨c0, 0, none⟩), .pointer (some ⟨c1, 0, none⟩), .pointer (some ⟨c2, 0, none⟩)]
section
variable {w : World} {b g c0 c1 c2 : Nat}
theorem visit_over {r : Nat} {q1 q2 : Option Addr} (hb : Blk w c0 4 [.bool true]) :
    Calls Try.prog 52 #[.int .u64 (r : Nat), .pointer (some ⟨c0, 0, none⟩), .pointer q1, .pointer q2] w fun e w' => e = .returned (.int .u64 (r : Nat)) ∧ w' = w := by
  refine vc_52 _ _ _ _ _ _ ?_
  simp only [eq_self, false_or, or_false, true_and, and_true, decide_eq_true_eq, decide_eq_false_iff_not, gd_st, gd_sf, exists_eq_left', exists_eq_left, Option.some.injEq, Sl.eta, Nat.reduceLeDiff, Int.reduceLE, Int.reduceLT, Int.reduceEq, Int.reduceNe, Nat.reduceMul, Nat.reduceAdd, Nat.reduceSub, Int.toNat_natCast, beq_iff_eq, bne_iff_ne, beq_eq_false_iff_ne, bne_eq_false_iff_eq, pick_and, pick_or, Bool.and_eq_true, Bool.or_eq_true, Bool.and_eq_false_iff, Bool.or_eq_false_iff, ne_eq, not_false_eq_true, Bool.not_eq_true', Bool.not_eq_false', reduceCtorEq, Nat.le_refl, Nat.zero_mul, Nat.mul_one, Nat.zero_add, Int.reduceToNat, ones, one, add_mk, Decidable.not_not, cond_true, cond_false, true_implies, false_implies, implies_true, Bool.not_true, Bool.not_false]
  exact ⟨_, hb.cell 0, fun h => (by cases h)⟩
theorem visit_spec {s : St} (h : ArW 91 w b g s.1) (hc : Cl w c0 c1 c2 g false s.2) {r : Nat} (hr : r < 18446744073709551616) :
    Calls Try.prog 52 #[.int .u64 (r : Nat), .pointer (some ⟨c0, 0, none⟩), .pointer (some ⟨c1, 0, none⟩), .pointer (some ⟨c2, 0, none⟩)] w fun e w' =>
      e = .returned (.int .u64 ((visitT s r).2 : Nat)) ∧ ArW 91 w' b g (visitT s r).1.1 ∧ Cl w' c0 c1 c2 g false (visitT s r).1.2 ∧ Upd (fun k => k = b ∨ k = g ∨ k = c2) w w' := by
  refine vc_52 _ _ _ _ _ _ ?_
  have d0b := hc.ov.ne h.ws (by decide); have d0g := hc.ov.ne h.hd (by decide)
  have d1b := hc.ar.ne h.ws (by decide); have d1g := hc.ar.ne h.hd (by decide)
  have d2b := hc.first.ne h.ws (by decide); have d2g := hc.first.ne h.hd (by decide)
  have d02 := hc.ov.ne hc.first (by decide); have d12 := hc.ar.ne hc.first (by decide)
  simp only [eq_self, false_or, or_false, true_and, and_true, decide_eq_true_eq, decide_eq_false_iff_not, gd_st, gd_sf, exists_eq_left', exists_eq_left, Option.some.injEq, Sl.eta, Nat.reduceLeDiff, Int.reduceLE, Int.reduceLT, Int.reduceEq, Int.reduceNe, Nat.reduceMul, Nat.reduceAdd, Nat.reduceSub, Int.toNat_natCast, beq_iff_eq, bne_iff_ne, beq_eq_false_iff_ne, bne_eq_false_iff_eq, pick_and, pick_or, Bool.and_eq_true, Bool.or_eq_true, Bool.and_eq_false_iff, Bool.or_eq_false_iff, ne_eq, not_false_eq_true, Bool.not_eq_true', Bool.not_eq_false', reduceCtorEq, Nat.le_refl, Nat.zero_mul, Nat.mul_one, Nat.zero_add, Int.reduceToNat, ones, one, add_mk, Decidable.not_not, cond_true, cond_false, true_implies, false_implies, implies_true, Bool.not_true, Bool.not_false]
  refine ⟨_, hc.ov.cell 0, fun h => (by cases h), fun _ => ⟨_, hc.ar.cell 0, ⟨(copy_spec h hr).mono ?_⟩⟩⟩
  rintro e w1 ⟨rfl, a1, u1⟩
  have c1' := hc.upd u1 (by omega) (by omega) (by omega)
  have U1 : Upd (fun k => k = b ∨ k = g ∨ k = c2) w w1 := u1.mono fun i _ hn e => hn (by omega)
  refine ⟨_, _, rfl, fun hne => ⟨c1'.first.canSet 0 (by simp), fun w2 s2 => ?_⟩, fun he => ?_⟩
  · have e1 : visitT s r = (((copyT s.1 r).1, 21), r) := by unfold visitT; rw [if_neg hne]
    rw [e1]
    refine ⟨rfl, a1.upd s2.upd (Ne.symm d2g) (Ne.symm d2b), ⟨c1'.ov.upd s2.upd d02, c1'.ar.upd s2.upd d12, s2.blk1 c1'.first⟩, U1.trans s2.upd fun i _ hn => ⟨hn, fun e => hn (.inr (.inr e))⟩⟩
  · have e1 : visitT s r = (((copyT s.1 r).1, s.2), (copyT s.1 r).2.1) := by unfold visitT; rw [if_pos he]
    rw [e1]
    exact ⟨rfl, a1, c1', U1⟩
theorem scan_spec {s : St} (h : ArW 91 w b g s.1) (hc : Cl w c0 c1 c2 g false s.2) {r : Nat} (hr : r < 18446744073709551616) (hB : b < w.heap.size ∧ g < w.heap.size) :
    Calls Try.prog 55 #[.pointer (some ⟨g, 0, none⟩), .int .u64 (r : Nat), cloV c0 c1 c2] w fun e w' =>
      e = .returned (.tuple #[]) ∧ ArW 91 w' b g (scanT s r).1 ∧ Cl w' c0 c1 c2 g false (scanT s r).2 ∧ Upd (fun k => k = b ∨ k = g ∨ k = c2) w w' := by
  refine vc_55 _ _ _ _ _ _ _ ?_
  simp only [eq_self, false_or, or_false, true_and, and_true, decide_eq_true_eq, decide_eq_false_iff_not, gd_st, gd_sf, exists_eq_left', exists_eq_left, Option.some.injEq, Sl.eta, Nat.reduceLeDiff, Int.reduceLE, Int.reduceLT, Int.reduceEq, Int.reduceNe, Nat.reduceMul, Nat.reduceAdd, Nat.reduceSub, Int.toNat_natCast, beq_iff_eq, bne_iff_ne, beq_eq_false_iff_ne, bne_eq_false_iff_eq, pick_and, pick_or, Bool.and_eq_true, Bool.or_eq_true, Bool.and_eq_false_iff, Bool.or_eq_false_iff, ne_eq, not_false_eq_true, Bool.not_eq_true', Bool.not_eq_false', reduceCtorEq, Nat.le_refl, Nat.zero_mul, Nat.mul_one, Nat.zero_add, Int.reduceToNat, ones, one, add_mk, Decidable.not_not, cond_true, cond_false, true_implies, false_implies, implies_true, Bool.not_true, Bool.not_false]
  have okA := h.ok
  refine ⟨(header_spec h hr).mono ?_⟩
  rintro e w1 ⟨he, x1⟩
  have hhd : ∀ {hd}, (headT s.1 r).getD hd0 = hd → (MayT hd ∨ hd = hd0) := by
    rintro _ rfl
    cases hh : headT s.1 r with
    | none => exact .inr rfl
    | some hd => exact .inl (headT_in okA hh).2.1
  have eS : scanT s r = scanN ((headT s.1 r).getD hd0) r ((headT s.1 r).getD hd0).l.toNat s := rfl
  rw [eS]
  obtain ⟨H, hH⟩ : ∃ H, (headT s.1 r).getD hd0 = H := ⟨_, rfl⟩
  have he' : e = .returned (.tuple #[hdV H, .bool (headT s.1 r).isSome]) := by rw [he, ← hH]
  subst he'
  rw [hH]
  have hm := hhd hH
  refine ⟨_, _, _, _, _, rfl, fun w2 n2 => ⟨rfl, HB.can n2, fun w3 s3 => ?_⟩⟩
  obtain ⟨hb3, x3⟩ := HB.made (h := H) n2 s3
  have x03 := x1.trans x3
  have z1 := x1.size; have z3 := x3.size; have l3 := hb3.lt
  have hl1000 : 0 ≤ H.l ∧ H.l ≤ 1000 := by
    rcases hm with hm | rfl
    · exact ⟨hm.2.2.1, hm.le⟩
    · exact ⟨by decide, by decide⟩
  refine ⟨_, hb3.cell 0, fun hk => ?_, fun hk => ⟨_, hb3.cell 2, ?_⟩⟩
  · have e0 : ∀ i, scanN H r i s = s := by
      intro i
      induction i with
      | zero => rfl
      | succ i ih =>
        unfold scanN
        rw [if_neg, ih]
        unfold refT
        rw [hk]; simp
    rw [e0]
    exact ⟨h.ext x03, hc.ext x03, x03.toS⟩
  refine ⟨fun n w' => ∃ i : Nat, n = i ∧ i ≤ H.l.toNat ∧ ArW 91 w' b g (scanN H r i s).1 ∧ Cl w' c0 c1 c2 g false (scanN H r i s).2 ∧ HB w' w1.heap.size H ∧ Upd (fun k => k = b ∨ k = g ∨ k = c2) w w', fun n _ => (H.l - n).toNat,
    ⟨0, rfl, Nat.zero_le _, h.ext x03, hc.ext x03, hb3, x03.toS⟩, ?_⟩
  rintro _ n w4 ⟨i, rfl, hi, a4, k4, hb4, u4⟩
  have ei : IntKind.i64.wrap ((i : Int) + 1) = ((i + 1 : Nat) : Int) := by rw [wrap_i64 (by omega) (by omega)]; omega
  rw [ei]
  have lb := hc.first.lt
  refine ⟨fun hlt => ?_, fun hge => ⟨by rw [show H.l.toNat = i by omega]; exact a4, by rw [show H.l.toNat = i by omega]; exact k4, u4⟩⟩
  have hM : MayT H := by
    rcases hm with hm | rfl
    · exact hm
    · exact absurd hlt (by show ¬ (i : Int) < 0; omega)
  have hkk := hM.kind
  have skip : refT H i = false → (∃ i' : Nat, ((i + 1 : Nat) : Int) = i' ∧ i' ≤ H.l.toNat ∧ ArW 91 w4 b g (scanN H r i' s).1 ∧ Cl w4 c0 c1 c2 g false (scanN H r i' s).2 ∧ HB w4 w1.heap.size H ∧ Upd (fun k => k = b ∨ k = g ∨ k = c2) w w4) := by
    intro hf
    have e1 : scanN H r (i + 1) s = scanN H r i s := by conv => lhs; unfold scanN; rw [if_neg (by rw [hf]; decide)]
    exact ⟨i + 1, rfl, by omega, by rw [e1]; exact a4, by rw [e1]; exact k4, hb4, u4⟩
  refine ⟨fun w' => w' = w4 ∧ refT H i = true, ⟨_, hb4.cell 0, fun h1 => ⟨_, hb4.cell 3, by omega, ?_⟩, fun h1 => ⟨rfl, ?_⟩⟩, ?_⟩
  · have hl32 : H.r < 18446744073709551616 := by have := hM.lt; omega
    have hi32 : i < 64 := by
      obtain ⟨_, _, _, hh | hh⟩ := hM <;> omega
    have eb : bitV .and .u64 (shrV .u64 (H.r : Int) (i : Int)) 1 = ((H.r / 2 ^ i % 2 : Nat) : Int) := by
      rw [shr_nat .u64 H.r i (by show i ≤ 64; omega)]
      have hlt2 : H.r / 2 ^ i < 18446744073709551616 := Nat.lt_of_le_of_lt (Nat.div_le_self _ _) hl32
      rw [show (1 : Int) = ((1 : Nat) : Int) from rfl, and_u64 _ _ hlt2 (by decide), Nat.and_one_is_mod]
    rw [eb]
    have er : refT H i = (H.r / 2 ^ i % 2 == 1) := by unfold refT; rw [h1]; simp
    refine ⟨fun hz => ⟨skip (by rw [er]; simp; omega), by dsimp only; omega⟩, fun hz => ⟨rfl, by rw [er]; simp; omega⟩⟩
  · unfold refT
    have : H.k = 3 := by omega
    rw [this]; rfl
  rintro _ w5 ⟨rfl, hf⟩
  have okI := scanN_ok okA H r i
  refine ⟨(Cell_spec a4 hr (i := (i : Int)) (by omega)).mono ?_⟩
  rintro e w6 ⟨rfl, x6⟩
  refine ⟨_, _, rfl, ⟨(visit_spec (s := scanN H r i s) (a4.ext x6) (k4.ext x6) (cellO_lt okI r i)).mono ?_⟩⟩
  rintro e w7 ⟨rfl, a7, k7, u7⟩
  refine ⟨_, rfl, ⟨(SetCell_spec a7 hr (i := (i : Int)) (by omega) (visitT_lt okI (cellO_lt okI r i))).mono ?_⟩⟩
  rintro e w8 ⟨rfl, a8, u8⟩
  have d0b := k7.ov.ne a7.ws (by decide); have d1b := k7.ar.ne a7.ws (by decide); have d2b := k7.first.ne a7.ws (by decide)
  have e1 : scanN H r (i + 1) s = ((setO (visitT (scanN H r i s) (cellO (scanN H r i s).1 r i).1).1.1 r i (visitT (scanN H r i s) (cellO (scanN H r i s).1 r i).1).2).1, (visitT (scanN H r i s) (cellO (scanN H r i s).1 r i).1).1.2) := by conv => lhs; unfold scanN; rw [if_pos hf]
  have U7 : Upd (fun k => k = b ∨ k = g ∨ k = c2) w w7 := (u4.trans x6 fun _ _ hn => ⟨hn, not_false⟩).trans u7 fun i _ hn => ⟨hn, hn⟩
  have hb7 := (hb4.ext x6).upd u7 (by omega)
  refine ⟨_, rfl, ⟨i + 1, rfl, by omega, by rw [e1]; exact a8, by rw [e1]; exact k7.upd u8 (by omega) (by omega) (by omega), hb7.upd u8 (by omega), U7.trans u8 fun i _ hn => ⟨hn, fun e => hn (by omega)⟩⟩, by dsimp only; omega⟩
end
end Go.Proofs.Ytggpomialmpgoaa.V
namespace Go.Proofs.Ytggpomialmpgoaa.V
open Go Go.RowKit
set_option linter.unusedVariables false
set_option linter.unusedSimpArgs false
set_option maxRecDepth 100000

theorem afterT_in {A : Ar} (ok : A.Ok) {r r' : Nat} (h : afterT A r = (r', true)) : r < r' ∧ r' ≤ 2 * A.n := by
  have hi := ok.useIn; have hn := ok.nxtIn
  have hs : (spT A).e ≤ 2 * A.n := by unfold spT; split <;> omega
  have last : ∀ nx, lastT A nx = (r', true) → nx = r' ∧ 1 ≤ r' ∧ r' ≤ 2 * A.n := by
    intro nx hl
    unfold lastT at hl
    split at hl
    · rename_i hd hst
      injection hl with hl; subst hl
      have := stT_in hst
      exact ⟨rfl, by omega, by omega⟩
    · injection hl with _ hl; cases hl
  unfold afterT at h
  split at h
  · have := last _ h; omega
  · split at h
    · have := last _ h; omega
    · injection h with _ h; cases h
theorem scanAll_false (k : Nat) (s : St) (r : Nat) : scanAll k s (r, false) = s := by cases k <;> rfl
theorem set_mid {l : List Nat} {A : List Nat} {i x : Nat} (hA : A.length = i) (hi : i < l.length) : (A ++ l.drop i).set i x = (A ++ [x]) ++ l.drop (i + 1) := by
  subst hA
  rw [List.set_append_right _ _ (Nat.le_refl _), Nat.sub_self, List.drop_eq_getElem_cons hi, List.set_cons_zero, List.append_assoc]
  rfl
theorem lastT_none {A : Ar} {nx : Nat} (h : (lastT A nx).2 = false) : (lastT A nx).1 = 0 := by
  cases hs : stT A (spT A) nx with
  | none => unfold lastT; rw [hs]
  | some hd => unfold lastT at h; rw [hs] at h; cases h
theorem afterT_none {A : Ar} {r : Nat} (h : (afterT A r).2 = false) : (afterT A r).1 = 0 := by
  by_cases h0 : r = 0
  · unfold afterT at h ⊢; rw [if_pos h0] at h ⊢; exact lastT_none h
  · unfold afterT at h ⊢; rw [if_neg h0] at h ⊢
    cases hs : stT A (spT A) r with
    | none => rfl
    | some hd => rw [hs] at h; exact lastT_none h
section
variable {w : World} {b g c0 c1 c2 R N nb : Nat} {A : Ar} {l : Sl} {ls : List Nat}
abbrev rootsV (R N : Nat) : Value := .func (.func 29) #[] #[.pointer (some ⟨R, 0, none⟩), .pointer (some ⟨N, 0, none⟩)]
theorem roots_spec {s : St} (h : ArW 91 w b g s.1) (hc : Cl w c0 c1 c2 g false s.2) (hR : Blk w R 38 [.slice l.a l.n l.c]) (hl : Rd w 1 l (uv ls)) (hN : Blk w N 38 [.slice (some ⟨nb, 0, none⟩) ls.length ls.length]) (hnb : Blk w nb 35 (uv (List.replicate ls.length 0)))
    (hlo : ∀ q, l.a = some q → q.block ≠ b ∧ q.block ≠ g ∧ q.block ≠ nb ∧ q.block ≠ c2) (hbn : nb ≠ b) (hlt : ∀ x ∈ ls, x < 18446744073709551616) (hm : ls.length ≤ 100000000000000) :
    Calls Try.prog 29 #[cloV c0 c1 c2, .pointer (some ⟨R, 0, none⟩), .pointer (some ⟨N, 0, none⟩)] w fun e' w' =>
      e' = .returned (.tuple #[]) ∧ ArW 91 w' b g (visitsT s ls).1.1 ∧ Cl w' c0 c1 c2 g false (visitsT s ls).1.2 ∧ Blk w' nb 35 (uv (visitsT s ls).2) ∧ Upd (fun k => k = b ∨ k = g ∨ k = c2 ∨ k = nb) w w' := by
  refine vc_29 _ _ _ _ _ _ _ ?_
  have ln := hl.lenu
  have dNb := hN.ne h.ws (by decide); have dNg := hN.ne h.hd (by decide); have dN2 := hN.ne hc.first (by decide); have dNn := hN.ne hnb (by decide)
  have dng := hnb.ne h.hd (by decide); have dn0 := hnb.ne hc.ov (by decide); have dn1 := hnb.ne hc.ar (by decide); have dn2 := hnb.ne hc.first (by decide)
  simp only [eq_self, false_or, or_false, true_and, and_true, decide_eq_true_eq, decide_eq_false_iff_not, gd_st, gd_sf, exists_eq_left', exists_eq_left, Option.some.injEq, Sl.eta, Nat.reduceLeDiff, Int.reduceLE, Int.reduceLT, Int.reduceEq, Int.reduceNe, Nat.reduceMul, Nat.reduceAdd, Nat.reduceSub, Int.toNat_natCast, beq_iff_eq, bne_iff_ne, beq_eq_false_iff_ne, bne_eq_false_iff_eq, pick_and, pick_or, Bool.and_eq_true, Bool.or_eq_true, Bool.and_eq_false_iff, Bool.or_eq_false_iff, ne_eq, not_false_eq_true, Bool.not_eq_true', Bool.not_eq_false', reduceCtorEq, Nat.le_refl, Nat.zero_mul, Nat.mul_one, Nat.zero_add, Int.reduceToNat, ones, one, add_mk, Decidable.not_not, cond_true, cond_false, true_implies, false_implies, implies_true, Bool.not_true, Bool.not_false]
  refine ⟨l, hR.cell 0, ?_⟩
  refine ⟨fun i w' => ∃ k : Nat, i = (k : Nat) ∧ k ≤ ls.length ∧ ArW 91 w' b g (visitsT s (ls.take k)).1.1 ∧ Cl w' c0 c1 c2 g false (visitsT s (ls.take k)).1.2 ∧ Blk w' nb 35 (uv ((visitsT s (ls.take k)).2 ++ (List.replicate ls.length 0).drop k)) ∧ Upd (fun k => k = b ∨ k = g ∨ k = c2 ∨ k = nb) w w', fun i _ => (ls.length - i).toNat,
    ⟨0, rfl, Nat.zero_le _, h, hc, hnb, (Ext.refl w).toS⟩, ?_⟩
  rintro _ i w1 ⟨k, rfl, hk, a1, k1, b1, u1⟩
  have ei : IntKind.i64.wrap ((k : Int) + 1) = ((k + 1 : Nat) : Int) := by rw [wrap_i64 (by omega) (by omega)]; omega
  rw [ei]
  refine ⟨fun hlt' => ?_, fun hge => ?_⟩
  · obtain ⟨p, y, hp, hy, hcy⟩ := (hl.upd u1 (fun q hq e => by have := hlo q hq; omega)).word k (by omega)
    rw [Nat.mul_one] at hcy
    refine ⟨by omega, by omega, p, hp, _, by rw [Int.toNat_natCast]; exact hcy, fun w2 q2 => ?_⟩
    have N1 := hN.upd u1 (by omega)
    have x2 := q2.ext
    refine ⟨fun k => k = b ∨ k = g ∨ k = c2, ⟨some ⟨nb, 0, none⟩, ls.length, ls.length⟩, fun v u => ((N1.ext x2).upd u (by omega)).cell 0, ⟨(visit_spec (s := (visitsT s (ls.take k)).1) (a1.ext x2) (k1.ext x2) (hlt y (List.mem_of_getElem? hy))).mono ?_⟩⟩
    rintro e w3 ⟨rfl, a3, k3, u3⟩
    have b3 := (b1.ext x2).upd u3 (by omega)
    have hvl : ((visitsT s (ls.take k)).2).length = k := by rw [visitsT_len, List.length_take]; omega
    refine ⟨_, rfl, u3, by omega, by dsimp only; omega, _, rfl, ?_, fun w4 s4 => ?_⟩
    · rw [Int.toNat_natCast, add_mk, Nat.zero_add]
      exact b3.canSet k (by rw [uv_length, List.length_append, hvl, List.length_drop, List.length_replicate]; omega)
    · rw [Int.toNat_natCast, add_mk, Nat.zero_add] at s4
      have b4 := s4.blk1 b3
      rw [uv_set, set_mid hvl (by rw [List.length_replicate]; omega)] at b4
      have eV : visitsT s (ls.take (k + 1)) = ((visitT (visitsT s (ls.take k)).1 y).1, (visitsT s (ls.take k)).2 ++ [(visitT (visitsT s (ls.take k)).1 y).2]) := by rw [take_snoc hy, visitsT_snoc]
      exact ⟨⟨k + 1, rfl, by omega, by rw [eV]; exact a3.upd s4.upd (by dsimp only; omega) (by dsimp only; omega), by rw [eV]; exact k3.upd s4.upd (by dsimp only; omega) (by dsimp only; omega) (by dsimp only; omega), by rw [eV]; exact b4, ((u1.trans x2 fun _ _ hn => ⟨hn, not_false⟩).trans u3 fun i _ hn => ⟨hn, fun e => hn (by omega)⟩).trans s4.upd fun i _ hn => ⟨hn, fun e => hn (by dsimp only at e; omega)⟩⟩, by dsimp only; omega⟩
  · rw [List.take_of_length_le (by omega)] at a1 k1 b1
    rw [List.drop_eq_nil_of_le (by rw [List.length_replicate]; omega), List.append_nil] at b1
    exact ⟨a1, k1, b1, u1⟩
theorem collect_spec (h : ArW 91 w b g A) (ho : A.opn = false) (hR : Blk w R 38 [.slice l.a l.n l.c]) (hl : Rd w 1 l (uv ls)) (hN : Blk w N 38 [.slice (some ⟨nb, 0, none⟩) ls.length ls.length]) (hnb : Blk w nb 35 (uv (List.replicate ls.length 0)))
    (hlo : ∀ q, l.a = some q → q.block ≠ b ∧ q.block ≠ g ∧ q.block ≠ nb ∧ q.block < w.heap.size) (hbn : nb ≠ b) (hlt : ∀ x ∈ ls, x < 18446744073709551616) (hm : ls.length ≤ 100000000000000) (zero : Bool) :
    Calls Try.prog 28 #[.pointer (some ⟨g, 0, none⟩), rootsV R N, .bool zero] w fun e' w' =>
      e' = .returned (.tuple #[.int .i64 ((collectT A ls zero).1.use.e - (collectT A ls zero).1.use.f : Nat), .int .i64 (collectT A ls zero).2.2]) ∧ ArW 91 w' b g (collectT A ls zero).1 ∧ Blk w' nb 35 (uv (collectT A ls zero).2.1) ∧
      Upd (fun k => k = b ∨ k = g ∨ k = nb) w w' := by
  refine vc_28 _ _ _ _ _ _ ?_
  have lb := h.ws.lt; have lg := h.hd.lt; have lR := hR.lt; have lN := hN.lt; have lnb := hnb.lt
  have dRb := hR.ne h.ws (by decide); have dRg := hR.ne h.hd (by decide)
  have dNb := hN.ne h.ws (by decide); have dNg := hN.ne h.hd (by decide)
  have dng := hnb.ne h.hd (by decide)
  simp only [eq_self, false_or, or_false, true_and, and_true, decide_eq_true_eq, decide_eq_false_iff_not, gd_st, gd_sf, exists_eq_left', exists_eq_left, Option.some.injEq, Sl.eta, Nat.reduceLeDiff, Int.reduceLE, Int.reduceLT, Int.reduceEq, Int.reduceNe, Nat.reduceMul, Nat.reduceAdd, Nat.reduceSub, Int.toNat_natCast, beq_iff_eq, bne_iff_ne, beq_eq_false_iff_ne, bne_eq_false_iff_eq, pick_and, pick_or, Bool.and_eq_true, Bool.or_eq_true, Bool.and_eq_false_iff, Bool.or_eq_false_iff, ne_eq, not_false_eq_true, Bool.not_eq_true', Bool.not_eq_false', reduceCtorEq, Nat.le_refl, Nat.zero_mul, Nat.mul_one, Nat.zero_add, Int.reduceToNat, ones, one, add_mk, Decidable.not_not, cond_true, cond_false, true_implies, false_implies, implies_true, Bool.not_true, Bool.not_false]
  intro w1 n1
  have z1 := n1.size
  refine ⟨_, (Blk.new n1).cell 0, fun _ => ⟨_, (Blk.new n1).cell 0, ⟨(open_spec (h.ext n1.ext)).mono ?_⟩⟩, fun h => (by cases h)⟩
  rintro e1 w2 ⟨rfl, a2, u2⟩
  have eo : (openT A).2 = 0 := by unfold openT; rw [ho]; rfl
  have U2 : Upd (fun k => k = b ∨ k = g ∨ k = nb) w w2 := n1.ext.toS.trans u2 fun i _ hn => ⟨hn, fun e => hn (.inr (.inl e))⟩
  refine ⟨_, rfl, fun hne => absurd eo hne, fun _ w3 n3 w4 n4 => ?_⟩
  have z2 := u2.size; have z3 := n3.size; have z4 := n4.size
  have x24 := n3.ext.trans n4.ext
  have f4 : Blk w4 w2.heap.size 26 [.int .i64 0] := (Blk.new n3).ext n4.ext
  refine ⟨f4.canSet 0 (by simp), fun w5 s5 => ?_⟩
  have f5 := s5.blk1 f4
  have v5 := (Blk.new n4).upd s5.upd (by dsimp only; omega)
  refine ⟨v5.canSet 0 (by simp), fun w6 s6 => ?_⟩
  have y26 : Ext w2 w6 := (x24.fresh s5.upd (by rintro i rfl; exact Nat.le_refl _)).fresh s6.upd (by rintro i rfl; dsimp only; omega)
  have k6 : Cl w6 w3.heap.size w.heap.size w2.heap.size g false 0 := ⟨s6.blk1 v5, (((Blk.new n1).upd u2 (by omega)).ext y26), f5.upd s6.upd (by dsimp only; omega)⟩
  have a6 := a2.ext y26
  have R6 := ((hR.ext n1.ext).upd u2 dRg).ext y26
  have N6 := ((hN.ext n1.ext).upd u2 dNg).ext y26
  have nb6 := ((hnb.ext n1.ext).upd u2 dng).ext y26
  have l6 := ((hl.ext n1.ext).upd u2 (fun q hq e => (hlo q hq).2.1 e)).ext y26
  have U6 := U2.trans y26 fun i _ hn => ⟨hn, not_false⟩
  refine ⟨(roots_spec (s := ((openT A).1, 0)) a6 k6 R6 l6 N6 nb6 (fun q hq => by have := hlo q hq; omega) hbn hlt hm).mono ?_⟩
  rintro e7 w7 ⟨rfl, a7, k7, nb7, u7⟩
  have U7 : Upd (fun k => k = b ∨ k = g ∨ k = nb) w w7 := U6.trans u7 fun i hi hn => ⟨hn, fun e => hn (by omega)⟩
  have ok7 := a7.ok
  have hn7 : (visitsT ((openT A).1, 0) ls).1.1.n = A.n := (visitsT_same ls ((openT A).1, 0)).n.trans (by unfold openT; rw [ho]; rfl)
  refine ⟨_, rfl, _, k7.ar.cell 0, ⟨(after_spec a7 (r := 0) (by decide)).mono ?_⟩⟩
  rintro e8 w8 ⟨rfl, x8⟩
  generalize hV : visitsT ((openT A).1, 0) ls = V at *
  have eC : collectT A ls zero = ((closeT (scanAll (2 * A.n + 1) V.1 (afterT V.1.1 0)).1 zero).1, V.2, (scanAll (2 * A.n + 1) V.1 (afterT V.1.1 0)).2) := by unfold collectT; rw [hV]
  rw [eC]
  generalize hF : scanAll (2 * A.n + 1) V.1 (afterT V.1.1 0) = F at *
  have hn := h.ok.n
  refine ⟨_, _, rfl, fun r p v => ∃ (m k : Nat) (s : St), r = m ∧ m < 18446744073709551616 ∧ ArW 91 v b g s.1 ∧ s.1.n = A.n ∧ Cl v w3.heap.size w.heap.size w2.heap.size g false s.2 ∧ scanAll k s (m, p) = F ∧ (p = true → 2 * A.n + 2 ≤ m + k ∧ m ≤ 2 * A.n) ∧
      Blk v nb 35 (uv V.2) ∧ Upd (fun k => k = b ∨ k = g ∨ k = nb) w v,
    fun r p _ => if p = true then (2 * A.n + 1 - r).toNat else 0,
    ⟨(afterT V.1.1 0).1, 2 * A.n + 1, V.1, rfl, ?_, a7.ext x8, hn7, k7.ext x8, hF, ?_, nb7.ext x8, U7.trans x8 fun i _ hn => ⟨hn, not_false⟩⟩, ?_⟩
  · cases hp : (afterT V.1.1 0).2 with
    | false => have := afterT_none hp; omega
    | true =>
      have := afterT_in ok7 (r := 0) (r' := (afterT V.1.1 0).1) (by rw [← hp])
      omega
  · intro hp
    have := afterT_in ok7 (r := 0) (r' := (afterT V.1.1 0).1) (by rw [← hp])
    omega
  rintro _ r p v ⟨m, k, s, rfl, hm64, av, hsn, kv, hsc, hpk, nbv, Uv⟩
  have lc0 := kv.ov.lt
  refine ⟨fun hp => ?_, fun hp => ?_⟩
  · subst hp
    obtain ⟨hk1, hk2⟩ := hpk rfl
    refine ⟨_, kv.ar.cell 0, ⟨(scan_spec av kv hm64 ⟨av.ws.lt, av.hd.lt⟩).mono ?_⟩⟩
    rintro e9 w9 ⟨rfl, a9, k9, u9⟩
    have nb9 := nbv.upd u9 (by omega)
    have U9 : Upd (fun k => k = b ∨ k = g ∨ k = nb) w w9 := Uv.trans u9 fun i hi hn => ⟨hn, fun e => hn (by omega)⟩
    refine ⟨_, rfl, _, k9.ar.cell 0, ⟨(after_spec a9 hm64).mono ?_⟩⟩
    rintro e10 w10 ⟨rfl, x10⟩
    have ok9 := a9.ok
    have hsn9 : (scanT s m).1.n = A.n := (scanN_same s _ m _).n.trans hsn
    obtain ⟨k', rfl⟩ : ∃ k', k = k' + 1 := ⟨k - 1, by omega⟩
    have hsc' : scanAll k' (scanT s m) ((afterT (scanT s m).1 m).1, (afterT (scanT s m).1 m).2) = F := by
      rw [← hsc]; rfl
    have hin : (afterT (scanT s m).1 m).2 = true → m < (afterT (scanT s m).1 m).1 ∧ (afterT (scanT s m).1 m).1 ≤ 2 * A.n := fun hp => by
      have := afterT_in ok9 (r := m) (r' := (afterT (scanT s m).1 m).1) (by rw [← hp])
      omega
    refine ⟨_, _, rfl, ⟨_, k', scanT s m, rfl, ?_, a9.ext x10, hsn9, k9.ext x10, hsc', fun hp => by have := hin hp; omega, nb9.ext x10, U9.trans x10 fun i _ hn => ⟨hn, not_false⟩⟩, ?_⟩
    · cases hp : (afterT (scanT s m).1 m).2 with
      | false => have := afterT_none hp; omega
      | true => have := hin hp; omega
    · dsimp only
      rw [if_pos rfl]
      split
      · rename_i hp; have := hin hp; omega
      · omega
  · subst hp
    rw [scanAll_false] at hsc
    subst hsc
    refine ⟨_, kv.ar.cell 0, ⟨(close_spec av zero).mono ?_⟩⟩
    rintro e9 w9 ⟨rfl, a9, u9⟩
    have k9 := kv.upd u9 (by omega) (by omega) (by omega)
    refine ⟨_, rfl, k9.ov.canSet 0 (by simp), fun w10 s10 w11 q11 => ?_⟩
    have d0 : w3.heap.size ≠ b := by omega
    have a10 := a9.upd s10.upd (by dsimp only; omega) (by dsimp only; omega)
    have ar10 := k9.ar.upd s10.upd (by dsimp only; omega)
    have f10 := k9.first.upd s10.upd (by dsimp only; omega)
    have nb10 := (nbv.upd u9 (by omega)).upd s10.upd (by dsimp only; omega)
    have U10 : Upd (fun k => k = b ∨ k = g ∨ k = nb) w w10 := (Uv.trans u9 fun i hi hn => ⟨hn, fun e => hn (by omega)⟩).trans s10.upd fun i hi hn => ⟨hn, fun e => by dsimp only at e; omega⟩
    have x11 := q11.ext
    refine ⟨fun _ => False, _, fun v u => ((ar10.ext x11).ext u).cell 0, _, fun v u => ((f10.ext x11).ext u).cell 0, ⟨(used_spec (a10.ext x11)).mono ?_⟩⟩
    rintro e12 w12 ⟨rfl, q12⟩
    have x12 := x11.trans q12.ext
    exact ⟨_, rfl, q12.ext, rfl, a10.ext x12, nb10.ext x12, U10.trans x12 fun i _ hn => ⟨hn, not_false⟩⟩
end
end Go.Proofs.Ytggpomialmpgoaa.V
