/-
  Collecting: what visit and scan do.
  Collecting: roots that visit a list; Collect.
  Collect, and what is visited.
  What is visited; what is refused.
  The document's example.
-/
import Derived.Test.YtgbpglfieellpaaArB
import Derived.Test.YtgbpglfieellpaaVcC
import Derived.Test.YtgbpglfieellpaaVcN
namespace Go.Proofs.Ytgbpglfieellpaa.V
open Go Go.RowKit
set_option linter.unusedVariables false
set_option linter.unusedSimpArgs false
set_option maxRecDepth 100000

/-- an arena, and the first fault -/
abbrev St := Ar × Int
def visitT (s : St) (r : Nat) : St × Nat := if (copyT s.1 r).2.2 = 0 then (((copyT s.1 r).1, s.2), (copyT s.1 r).2.1) else (((copyT s.1 r).1, 21), r)
def scanN (h : Hd) (r : Nat) : Nat → St → St
  | 0, s => s
  | i + 1, s =>
    if refT h i = true then
      ((setO (visitT (scanN h r i s) (cellO (scanN h r i s).1 r i).1).1.1 r i (visitT (scanN h r i s) (cellO (scanN h r i s).1 r i).1).2).1, (visitT (scanN h r i s) (cellO (scanN h r i s).1 r i).1).1.2)
    else scanN h r i s
def scanT (s : St) (r : Nat) : St := scanN ((headT s.1 r).getD hd0) r ((headT s.1 r).getD hd0).l.toNat s
def scanAll : Nat → St → Nat × Bool → St
  | 0, s, _ => s
  | k + 1, s, p => if p.2 = true then scanAll k (scanT s p.1) (afterT (scanT s p.1).1 p.1) else s
def visitsT : St → List Nat → St × List Nat
  | s, [] => (s, [])
  | s, r :: l => ((visitsT (visitT s r).1 l).1, (visitT s r).2 :: (visitsT (visitT s r).1 l).2)
/-- all of it, of an arena that is not open -/
def collectT (A : Ar) (l : List Nat) (zero : Bool) : Ar × List Nat × Int :=
  let v := visitsT ((openT A).1, 0) l
  let s := scanAll (2 * A.n + 1) v.1 (afterT v.1.1 0)
  ((closeT s.1 zero).1, v.2, s.2)
theorem cellO_lt {A : Ar} (h : A.Ok) (r : Nat) (i : Int) : (cellO A r i).1 < 18446744073709551616 := by
  unfold cellO
  split
  · rename_i j hj
    dsimp only
    rw [List.getD_eq_getElem?_getD]
    cases hx : A.ws[j]? with
    | none => decide
    | some x => exact h.lt x (List.mem_of_getElem? hx)
  · exact Nat.zero_lt_succ _
theorem copyT_lt {A : Ar} (h : A.Ok) (r : Nat) : (copyT A r).2.1 < 18446744073709551616 := by
  have h1 := h.nxtIn; have hn := h.n
  unfold copyT
  split
  · exact Nat.zero_lt_succ _
  split
  · exact Nat.zero_lt_succ _
  split
  · exact Nat.zero_lt_succ _
  split
  · rename_i h4
    dsimp only
    have : A.ws.getD (r - 1) 0 < 18446744073709551616 := by
      rw [List.getD_eq_getElem?_getD]
      cases hx : A.ws[r - 1]? with
      | none => decide
      | some x => exact h.lt x (List.mem_of_getElem? hx)
    omega
  split
  · exact Nat.zero_lt_succ _
  · split
    · exact Nat.zero_lt_succ _
    · dsimp only; omega
theorem visitT_lt {s : St} (h : s.1.Ok) {r : Nat} (hr : r < 18446744073709551616) : (visitT s r).2 < 18446744073709551616 := by
  unfold visitT
  split
  · exact copyT_lt h r
  · exact hr
theorem visitT_ok {s : St} (h : s.1.Ok) (r : Nat) : (visitT s r).1.1.Ok := by
  unfold visitT
  split <;> exact copyT_ok h r
theorem setO_ok {A : Ar} (h : A.Ok) {r : Nat} {i : Int} {x : Nat} (hx : x < 18446744073709551616) : (setO A r i x).1.Ok := by
  unfold setO
  split
  · exact h.put hx
  · exact h
theorem scanN_ok {s : St} (h : s.1.Ok) (hd : Hd) (r : Nat) : ∀ i, (scanN hd r i s).1.Ok
  | 0 => h
  | i + 1 => by
    have ih := scanN_ok h hd r i
    unfold scanN
    split
    · exact setO_ok (visitT_ok ih _) (visitT_lt ih (cellO_lt ih _ _))
    · exact ih
/-- what stays while objects are moved -/
structure SameA (A B : Ar) : Prop where
  n : B.n = A.n
  use : B.use = A.use
  opn : B.opn = A.opn
  f : B.nxt.f = A.nxt.f
theorem SameA.refl (A : Ar) : SameA A A := ⟨rfl, rfl, rfl, rfl⟩
theorem SameA.trans {A B C : Ar} (h : SameA A B) (k : SameA B C) : SameA A C := ⟨k.n.trans h.n, k.use.trans h.use, k.opn.trans h.opn, k.f.trans h.f⟩
theorem copyT_same (A : Ar) (r : Nat) : SameA A (copyT A r).1 := by
  unfold copyT
  split
  · exact .refl A
  split
  · exact .refl A
  split
  · exact .refl A
  split
  · exact .refl A
  split
  · exact .refl A
  · split
    · exact .refl A
    · exact ⟨rfl, rfl, rfl, rfl⟩
theorem visitT_same (s : St) (r : Nat) : SameA s.1 (visitT s r).1.1 := by
  unfold visitT
  split <;> exact copyT_same s.1 r
theorem setO_same (A : Ar) (r : Nat) (i : Int) (x : Nat) : SameA A (setO A r i x).1 := by
  unfold setO
  split
  · exact ⟨rfl, rfl, rfl, rfl⟩
  · exact .refl A
theorem scanN_same (s : St) (hd : Hd) (r : Nat) : ∀ i, SameA s.1 (scanN hd r i s).1
  | 0 => .refl _
  | i + 1 => by
    unfold scanN
    split
    · exact ((scanN_same s hd r i).trans (visitT_same _ _)).trans (setO_same _ _ _ _)
    · exact scanN_same s hd r i
theorem visitsT_ok : ∀ (l : List Nat) (s : St), s.1.Ok → (visitsT s l).1.1.Ok
  | [], _, h => h
  | r :: l, s, h => visitsT_ok l _ (visitT_ok h r)
theorem visitsT_same : ∀ (l : List Nat) (s : St), SameA s.1 (visitsT s l).1.1
  | [], s => .refl _
  | r :: l, s => (visitT_same s r).trans (visitsT_same l _)
theorem visitsT_snoc : ∀ (l : List Nat) (s : St) (r : Nat), visitsT s (l ++ [r]) = ((visitT (visitsT s l).1 r).1, (visitsT s l).2 ++ [(visitT (visitsT s l).1 r).2])
  | [], s, r => rfl
  | x :: l, s, r => by
    show visitsT s (x :: (l ++ [r])) = _
    unfold visitsT
    rw [visitsT_snoc l (visitT s x).1 r]
    rfl
theorem visitsT_len : ∀ (l : List Nat) (s : St), (visitsT s l).2.length = l.length
  | [], s => rfl
  | x :: l, s => congrArg (· + 1) (visitsT_len l _)
theorem visitsT_lt : ∀ (l : List Nat) (s : St), s.1.Ok → (∀ x ∈ l, x < 18446744073709551616) → ∀ x ∈ (visitsT s l).2, x < 18446744073709551616
  | [], s, _, _ => fun x hx => by cases hx
  | r :: l, s, h, hl => fun x hx => by
    rcases List.mem_cons.1 hx with rfl | hx
    · exact visitT_lt h (hl r (List.mem_cons_self ..))
    · exact visitsT_lt l _ (visitT_ok h r) (fun y hy => hl y (List.mem_cons_of_mem _ hy)) x hx
/-- the closure's variables: over, the arena, the first fault -/
structure Cl (w : World) (c0 c1 c2 g : Nat) (ov : Bool) (f : Int) : Prop where
  ov : Blk w c0 4 [.bool ov]
  ar : Blk w c1 25 [.pointer (some ⟨g, 0, none⟩)]
  first : Blk w c2 26 [.int .i64 f]
theorem Cl.upd {w w' : World} {c0 c1 c2 g : Nat} {ov : Bool} {f : Int} {S : Nat → Prop} (h : Cl w c0 c1 c2 g ov f) (u : Upd S w w') (h0 : ¬ S c0) (h1 : ¬ S c1) (h2 : ¬ S c2) : Cl w' c0 c1 c2 g ov f :=
  ⟨h.ov.upd u h0, h.ar.upd u h1, h.first.upd u h2⟩
theorem Cl.ext {w w' : World} {c0 c1 c2 g : Nat} {ov : Bool} {f : Int} (h : Cl w c0 c1 c2 g ov f) (x : Ext w w') : Cl w' c0 c1 c2 g ov f := h.upd x not_false not_false not_false
abbrev cloV (c0 c1 c2 : Nat) : Value := .func (.func 32) #[] #[.pointer (some ⟨c0, 0, none⟩), .pointer (some ⟨c1, 0, none⟩), .pointer (some ⟨c2, 0, none⟩)]
section
variable {w : World} {b g c0 c1 c2 : Nat}
theorem visit_over {r : Nat} {q1 q2 : Option Addr} (hb : Blk w c0 4 [.bool true]) :
    Calls Try.prog 32 #[.int .u64 (r : Nat), .pointer (some ⟨c0, 0, none⟩), .pointer q1, .pointer q2] w fun e w' => e = .returned (.int .u64 (r : Nat)) ∧ w' = w := by
  refine vc_32 _ _ _ _ _ _ ?_
  simp only [eq_self, false_or, or_false, true_and, and_true, decide_eq_true_eq, decide_eq_false_iff_not, gd_st, gd_sf, exists_eq_left', exists_eq_left, Option.some.injEq, Sl.eta, Nat.reduceLeDiff, Int.reduceLE, Int.reduceLT, Int.reduceEq, Int.reduceNe, Nat.reduceMul, Nat.reduceAdd, Nat.reduceSub, Int.toNat_natCast, beq_iff_eq, bne_iff_ne, beq_eq_false_iff_ne, bne_eq_false_iff_eq, pick_and, pick_or, Bool.and_eq_true, Bool.or_eq_true, Bool.and_eq_false_iff, Bool.or_eq_false_iff, ne_eq, not_false_eq_true, Bool.not_eq_true', Bool.not_eq_false', reduceCtorEq, Nat.le_refl, Nat.zero_mul, Nat.mul_one, Nat.zero_add, Int.reduceToNat, ones, one, add_mk, Decidable.not_not, cond_true, cond_false, true_implies, false_implies, implies_true, Bool.not_true, Bool.not_false]
  exact ⟨_, hb.cell 0, fun h => (by cases h)⟩
theorem visit_spec {s : St} (h : ArW 76 w b g s.1) (hc : Cl w c0 c1 c2 g false s.2) {r : Nat} (hr : r < 18446744073709551616) :
    Calls Try.prog 32 #[.int .u64 (r : Nat), .pointer (some ⟨c0, 0, none⟩), .pointer (some ⟨c1, 0, none⟩), .pointer (some ⟨c2, 0, none⟩)] w fun e w' =>
      e = .returned (.int .u64 ((visitT s r).2 : Nat)) ∧ ArW 76 w' b g (visitT s r).1.1 ∧ Cl w' c0 c1 c2 g false (visitT s r).1.2 ∧ Upd (fun k => k = b ∨ k = g ∨ k = c2) w w' := by
  refine vc_32 _ _ _ _ _ _ ?_
  have d0b := hc.ov.ne h.ws (by decide); have d0g := hc.ov.ne h.hd (by decide)
  have d1b := hc.ar.ne h.ws (by decide); have d1g := hc.ar.ne h.hd (by decide)
  have d2b := hc.first.ne h.ws (by decide); have d2g := hc.first.ne h.hd (by decide)
  have d02 := hc.ov.ne hc.first (by decide); have d12 := hc.ar.ne hc.first (by decide)
  simp only [eq_self, false_or, or_false, true_and, and_true, decide_eq_true_eq, decide_eq_false_iff_not, gd_st, gd_sf, exists_eq_left', exists_eq_left, Option.some.injEq, Sl.eta, Nat.reduceLeDiff, Int.reduceLE, Int.reduceLT, Int.reduceEq, Int.reduceNe, Nat.reduceMul, Nat.reduceAdd, Nat.reduceSub, Int.toNat_natCast, beq_iff_eq, bne_iff_ne, beq_eq_false_iff_ne, bne_eq_false_iff_eq, pick_and, pick_or, Bool.and_eq_true, Bool.or_eq_true, Bool.and_eq_false_iff, Bool.or_eq_false_iff, ne_eq, not_false_eq_true, Bool.not_eq_true', Bool.not_eq_false', reduceCtorEq, Nat.le_refl, Nat.zero_mul, Nat.mul_one, Nat.zero_add, Int.reduceToNat, ones, one, add_mk, Decidable.not_not, cond_true, cond_false, true_implies, false_implies, implies_true, Bool.not_true, Bool.not_false]
  refine ⟨_, hc.ov.cell 0, fun h => (by cases h), fun _ => ⟨_, hc.ar.cell 0, ⟨(copy_spec h hr).mono ?_⟩⟩⟩
  rintro e w1 ⟨rfl, a1, u1⟩
  have c1' := hc.upd u1 (by omega) (by omega) (by omega)
  have U1 : Upd (fun k => k = b ∨ k = g ∨ k = c2) w w1 := u1.mono fun i _ hn e => hn (by omega)
  refine ⟨_, _, rfl, fun hne => ⟨c1'.first.canSet 0 (by simp), fun w2 s2 => ?_⟩, fun he => ?_⟩
  · have e1 : visitT s r = (((copyT s.1 r).1, 21), r) := by unfold visitT; rw [if_neg hne]
    rw [e1]
    refine ⟨rfl, a1.upd s2.upd (Ne.symm d2g) (Ne.symm d2b), ⟨c1'.ov.upd s2.upd d02, c1'.ar.upd s2.upd d12, s2.blk1 c1'.first⟩, U1.trans s2.upd fun i _ hn => ⟨hn, fun e => hn (.inr (.inr e))⟩⟩
  · have e1 : visitT s r = (((copyT s.1 r).1, s.2), (copyT s.1 r).2.1) := by unfold visitT; rw [if_pos he]
    rw [e1]
    exact ⟨rfl, a1, c1', U1⟩
theorem scan_spec {s : St} (h : ArW 76 w b g s.1) (hc : Cl w c0 c1 c2 g false s.2) {r : Nat} (hr : r < 18446744073709551616) (hB : b < w.heap.size ∧ g < w.heap.size) :
    Calls Try.prog 35 #[.pointer (some ⟨g, 0, none⟩), .int .u64 (r : Nat), cloV c0 c1 c2] w fun e w' =>
      e = .returned (.tuple #[]) ∧ ArW 76 w' b g (scanT s r).1 ∧ Cl w' c0 c1 c2 g false (scanT s r).2 ∧ Upd (fun k => k = b ∨ k = g ∨ k = c2) w w' := by
  refine vc_35 _ _ _ _ _ _ _ ?_
  simp only [eq_self, false_or, or_false, true_and, and_true, decide_eq_true_eq, decide_eq_false_iff_not, gd_st, gd_sf, exists_eq_left', exists_eq_left, Option.some.injEq, Sl.eta, Nat.reduceLeDiff, Int.reduceLE, Int.reduceLT, Int.reduceEq, Int.reduceNe, Nat.reduceMul, Nat.reduceAdd, Nat.reduceSub, Int.toNat_natCast, beq_iff_eq, bne_iff_ne, beq_eq_false_iff_ne, bne_eq_false_iff_eq, pick_and, pick_or, Bool.and_eq_true, Bool.or_eq_true, Bool.and_eq_false_iff, Bool.or_eq_false_iff, ne_eq, not_false_eq_true, Bool.not_eq_true', Bool.not_eq_false', reduceCtorEq, Nat.le_refl, Nat.zero_mul, Nat.mul_one, Nat.zero_add, Int.reduceToNat, ones, one, add_mk, Decidable.not_not, cond_true, cond_false, true_implies, false_implies, implies_true, Bool.not_true, Bool.not_false]
  have okA := h.ok
  refine ⟨(header_spec h hr).mono ?_⟩
  rintro e w1 ⟨he, x1⟩
  have hhd : ∀ {hd}, (headT s.1 r).getD hd0 = hd → (MayT hd ∨ hd = hd0) := by
    rintro _ rfl
    cases hh : headT s.1 r with
    | none => exact .inr rfl
    | some hd => exact .inl (headT_in okA hh).2.1
  have eS : scanT s r = scanN ((headT s.1 r).getD hd0) r ((headT s.1 r).getD hd0).l.toNat s := rfl
  rw [eS]
  obtain ⟨H, hH⟩ : ∃ H, (headT s.1 r).getD hd0 = H := ⟨_, rfl⟩
  have he' : e = .returned (.tuple #[hdV H, .bool (headT s.1 r).isSome]) := by rw [he, ← hH]
  subst he'
  rw [hH]
  have hm := hhd hH
  refine ⟨_, _, _, _, _, rfl, fun w2 n2 => ⟨rfl, HB.can n2, fun w3 s3 => ?_⟩⟩
  obtain ⟨hb3, x3⟩ := HB.made (h := H) n2 s3
  have x03 := x1.trans x3
  have z1 := x1.size; have z3 := x3.size; have l3 := hb3.lt
  have hl1000 : 0 ≤ H.l ∧ H.l ≤ 1000 := by
    rcases hm with hm | rfl
    · exact ⟨hm.2.2.1, hm.le⟩
    · exact ⟨by decide, by decide⟩
  refine ⟨_, hb3.cell 0, fun hk => ?_, fun hk => ⟨_, hb3.cell 2, ?_⟩⟩
  · have e0 : ∀ i, scanN H r i s = s := by
      intro i
      induction i with
      | zero => rfl
      | succ i ih =>
        unfold scanN
        rw [if_neg, ih]
        unfold refT
        rw [hk]; simp
    rw [e0]
    exact ⟨h.ext x03, hc.ext x03, x03.toS⟩
  refine ⟨fun n w' => ∃ i : Nat, n = i ∧ i ≤ H.l.toNat ∧ ArW 76 w' b g (scanN H r i s).1 ∧ Cl w' c0 c1 c2 g false (scanN H r i s).2 ∧ HB w' w1.heap.size H ∧ Upd (fun k => k = b ∨ k = g ∨ k = c2) w w', fun n _ => (H.l - n).toNat,
    ⟨0, rfl, Nat.zero_le _, h.ext x03, hc.ext x03, hb3, x03.toS⟩, ?_⟩
  rintro _ n w4 ⟨i, rfl, hi, a4, k4, hb4, u4⟩
  have ei : IntKind.i64.wrap ((i : Int) + 1) = ((i + 1 : Nat) : Int) := by rw [wrap_i64 (by omega) (by omega)]; omega
  rw [ei]
  have lb := hc.first.lt
  refine ⟨fun hlt => ?_, fun hge => ⟨by rw [show H.l.toNat = i by omega]; exact a4, by rw [show H.l.toNat = i by omega]; exact k4, u4⟩⟩
  have hM : MayT H := by
    rcases hm with hm | rfl
    · exact hm
    · exact absurd hlt (by show ¬ (i : Int) < 0; omega)
  have hkk := hM.kind
  have skip : refT H i = false → (∃ i' : Nat, ((i + 1 : Nat) : Int) = i' ∧ i' ≤ H.l.toNat ∧ ArW 76 w4 b g (scanN H r i' s).1 ∧ Cl w4 c0 c1 c2 g false (scanN H r i' s).2 ∧ HB w4 w1.heap.size H ∧ Upd (fun k => k = b ∨ k = g ∨ k = c2) w w4) := by
    intro hf
    have e1 : scanN H r (i + 1) s = scanN H r i s := by conv => lhs; unfold scanN; rw [if_neg (by rw [hf]; decide)]
    exact ⟨i + 1, rfl, by omega, by rw [e1]; exact a4, by rw [e1]; exact k4, hb4, u4⟩
  refine ⟨fun w' => w' = w4 ∧ refT H i = true, ⟨_, hb4.cell 0, fun h1 => ⟨_, hb4.cell 3, by omega, ?_⟩, fun h1 => ⟨rfl, ?_⟩⟩, ?_⟩
  · have hl32 : H.r < 18446744073709551616 := by have := hM.lt; omega
    have hi32 : i < 64 := by
      obtain ⟨_, _, _, hh | hh⟩ := hM <;> omega
    have eb : bitV .and .u64 (shrV .u64 (H.r : Int) (i : Int)) 1 = ((H.r / 2 ^ i % 2 : Nat) : Int) := by
      rw [shr_nat .u64 H.r i (by show i ≤ 64; omega)]
      have hlt2 : H.r / 2 ^ i < 18446744073709551616 := Nat.lt_of_le_of_lt (Nat.div_le_self _ _) hl32
      rw [show (1 : Int) = ((1 : Nat) : Int) from rfl, and_u64 _ _ hlt2 (by decide), Nat.and_one_is_mod]
    rw [eb]
    have er : refT H i = (H.r / 2 ^ i % 2 == 1) := by unfold refT; rw [h1]; simp
    refine ⟨fun hz => ⟨skip (by rw [er]; simp; omega), by dsimp only; omega⟩, fun hz => ⟨rfl, by rw [er]; simp; omega⟩⟩
  · unfold refT
    have : H.k = 3 := by omega
    rw [this]; rfl
  rintro _ w5 ⟨rfl, hf⟩
  have okI := scanN_ok okA H r i
  refine ⟨(Cell_spec a4 hr (i := (i : Int)) (by omega)).mono ?_⟩
  rintro e w6 ⟨rfl, x6⟩
  refine ⟨_, _, rfl, ⟨(visit_spec (s := scanN H r i s) (a4.ext x6) (k4.ext x6) (cellO_lt okI r i)).mono ?_⟩⟩
  rintro e w7 ⟨rfl, a7, k7, u7⟩
  refine ⟨_, rfl, ⟨(SetCell_spec a7 hr (i := (i : Int)) (by omega) (visitT_lt okI (cellO_lt okI r i))).mono ?_⟩⟩
  rintro e w8 ⟨rfl, a8, u8⟩
  have d0b := k7.ov.ne a7.ws (by decide); have d1b := k7.ar.ne a7.ws (by decide); have d2b := k7.first.ne a7.ws (by decide)
  have e1 : scanN H r (i + 1) s = ((setO (visitT (scanN H r i s) (cellO (scanN H r i s).1 r i).1).1.1 r i (visitT (scanN H r i s) (cellO (scanN H r i s).1 r i).1).2).1, (visitT (scanN H r i s) (cellO (scanN H r i s).1 r i).1).1.2) := by conv => lhs; unfold scanN; rw [if_pos hf]
  have U7 : Upd (fun k => k = b ∨ k = g ∨ k = c2) w w7 := (u4.trans x6 fun _ _ hn => ⟨hn, not_false⟩).trans u7 fun i _ hn => ⟨hn, hn⟩
  have hb7 := (hb4.ext x6).upd u7 (by omega)
  refine ⟨_, rfl, ⟨i + 1, rfl, by omega, by rw [e1]; exact a8, by rw [e1]; exact k7.upd u8 (by omega) (by omega) (by omega), hb7.upd u8 (by omega), U7.trans u8 fun i _ hn => ⟨hn, fun e => hn (by omega)⟩⟩, by dsimp only; omega⟩
end
end Go.Proofs.Ytgbpglfieellpaa.V
namespace Go.Proofs.Ytgbpglfieellpaa.V
open Go Go.RowKit
set_option linter.unusedVariables false
set_option linter.unusedSimpArgs false
set_option maxRecDepth 100000

theorem afterT_in {A : Ar} (ok : A.Ok) {r r' : Nat} (h : afterT A r = (r', true)) : r < r' ∧ r' ≤ 2 * A.n := by
  have hi := ok.useIn; have hn := ok.nxtIn
  have hs : (spT A).e ≤ 2 * A.n := by unfold spT; split <;> omega
  have last : ∀ nx, lastT A nx = (r', true) → nx = r' ∧ 1 ≤ r' ∧ r' ≤ 2 * A.n := by
    intro nx hl
    unfold lastT at hl
    split at hl
    · rename_i hd hst
      injection hl with hl; subst hl
      have := stT_in hst
      exact ⟨rfl, by omega, by omega⟩
    · injection hl with _ hl; cases hl
  unfold afterT at h
  split at h
  · have := last _ h; omega
  · split at h
    · have := last _ h; omega
    · injection h with _ h; cases h
theorem scanAll_false (k : Nat) (s : St) (r : Nat) : scanAll k s (r, false) = s := by cases k <;> rfl
abbrev doneL (s : Sl) (n e calls : Int) (kept : Value) : List Value := [.slice s.a s.n s.c, .int .i64 n, .int .i64 e, .int .i64 calls, kept]
abbrev rootsV (D : Nat) : Value := .func (.func 36) #[] #[.pointer (some ⟨D, 0, none⟩)]
theorem set_mid {l : List Nat} {A : List Nat} {i x : Nat} (hA : A.length = i) (hi : i < l.length) : (A ++ l.drop i).set i x = (A ++ [x]) ++ l.drop (i + 1) := by
  subst hA
  rw [List.set_append_right _ _ (Nat.le_refl _), Nat.sub_self, List.drop_eq_getElem_cons hi, List.set_cons_zero, List.append_assoc]
  rfl
section
variable {w : World} {b g c0 c1 c2 D B : Nat} {sl : Sl} {l : List Nat}
theorem roots_spec {s : St} {n e calls : Int} {kept : Value} (h : ArW 76 w b g s.1) (hc : Cl w c0 c1 c2 g false s.2) (hD : Blk w D 39 (doneL sl n e calls kept)) (hs : Own w B 23 1 sl (uv l)) (hb : ∀ q, sl.a = some q → q.block ≠ b)
    (hl : ∀ x ∈ l, x < 18446744073709551616) (hm : l.length ≤ 100000000000000) (hcl : 0 ≤ calls ∧ calls ≤ 1000) :
    Calls Try.prog 36 #[cloV c0 c1 c2, .pointer (some ⟨D, 0, none⟩)] w fun e' w' =>
      e' = .returned (.tuple #[]) ∧ ArW 76 w' b g (visitsT s l).1.1 ∧ Cl w' c0 c1 c2 g false (visitsT s l).1.2 ∧ Blk w' D 39 (doneL sl n e (calls + 1) (cloV c0 c1 c2)) ∧ Own w' B 23 1 sl (uv (visitsT s l).2) ∧
      Upd (fun k => k = b ∨ k = g ∨ k = c2 ∨ k = D ∨ ∃ q, sl.a = some q ∧ k = q.block) w w' := by
  refine vc_36 _ _ _ _ _ _ ?_
  have ln := hs.rd.lenu
  have dDb := hD.ne h.ws (by decide); have dDg := hD.ne h.hd (by decide)
  have dD0 := hD.ne hc.ov (by decide); have dD1 := hD.ne hc.ar (by decide); have dD2 := hD.ne hc.first (by decide)
  have offT : ∀ {v : World} {g' T : Nat} {cs xs : List Value}, Own v B 23 1 sl xs → Blk v g' T cs → T ≠ 23 → ∀ q, sl.a = some q → q.block ≠ g' := fun o bk hT q hq => own_blk_ne o bk (fun e => hT e.symm) q hq
  simp only [eq_self, false_or, or_false, true_and, and_true, decide_eq_true_eq, decide_eq_false_iff_not, gd_st, gd_sf, exists_eq_left', exists_eq_left, Option.some.injEq, Sl.eta, Nat.reduceLeDiff, Int.reduceLE, Int.reduceLT, Int.reduceEq, Int.reduceNe, Nat.reduceMul, Nat.reduceAdd, Nat.reduceSub, Int.toNat_natCast, beq_iff_eq, bne_iff_ne, beq_eq_false_iff_ne, bne_eq_false_iff_eq, pick_and, pick_or, Bool.and_eq_true, Bool.or_eq_true, Bool.and_eq_false_iff, Bool.or_eq_false_iff, ne_eq, not_false_eq_true, Bool.not_eq_true', Bool.not_eq_false', reduceCtorEq, Nat.le_refl, Nat.zero_mul, Nat.mul_one, Nat.zero_add, Int.reduceToNat, ones, one, add_mk, Decidable.not_not, cond_true, cond_false, true_implies, false_implies, implies_true, Bool.not_true, Bool.not_false]
  have es : IntKind.i64.wrap (calls + 1) = calls + 1 := wrap_i64 (by omega) (by omega)
  refine ⟨calls, hD.cell 3, hD.canSet 3 (by simp), fun w1 s1 => ?_⟩
  rw [es] at s1
  have D1 := s1.blk1 (i := 3) hD
  refine ⟨D1.canSet 4 (by simp), fun w2 s2 => ?_⟩
  have D2 := s2.blk1 (i := 4) D1
  simp only [List.set] at D1 D2
  have u2 : Upd (fun k => k = D) w w2 := s1.upd.trans s2.upd fun i _ hn => ⟨hn, hn⟩
  have a2 := h.upd u2 (Ne.symm dDg) (Ne.symm dDb)
  have k2 := hc.upd u2 (Ne.symm dD0) (Ne.symm dD1) (Ne.symm dD2)
  have o2 := hs.upd u2 (offT hs hD (by decide))
  have U2 : Upd (fun k => k = b ∨ k = g ∨ k = c2 ∨ k = D ∨ ∃ q, sl.a = some q ∧ k = q.block) w w2 := u2.mono fun i _ hn e => hn (.inr (.inr (.inr (.inl e))))
  refine ⟨fun n' w' => ∃ i : Nat, n' = i ∧ i ≤ l.length ∧ ArW 76 w' b g (visitsT s (l.take i)).1.1 ∧ Cl w' c0 c1 c2 g false (visitsT s (l.take i)).1.2 ∧ Blk w' D 39 (doneL sl n e (calls + 1) (cloV c0 c1 c2)) ∧
      Own w' B 23 1 sl (uv ((visitsT s (l.take i)).2 ++ l.drop i)) ∧ Upd (fun k => k = b ∨ k = g ∨ k = c2 ∨ k = D ∨ ∃ q, sl.a = some q ∧ k = q.block) w w', fun n' _ => (l.length - n').toNat,
    ⟨0, rfl, Nat.zero_le _, a2, k2, D2, o2, U2⟩, ?_⟩
  rintro _ n' w3 ⟨i, rfl, hi, a3, k3, D3, o3, U3⟩
  have ei : IntKind.i64.wrap ((i : Int) + 1) = ((i + 1 : Nat) : Int) := by rw [wrap_i64 (by omega) (by omega)]; omega
  rw [ei]
  refine ⟨sl, D3.cell 0, fun hlt w4 q4 => ?_, fun hge => ?_⟩
  · have x4 := q4.ext
    have a4 := a3.ext x4; have k4 := k3.ext x4; have D4 := D3.ext x4; have o4 := o3.ext x4
    have lt : (l.take i).length = i := by rw [List.length_take]; omega
    have lv := visitsT_len (l.take i) s
    obtain ⟨p, x, hp, hx, hcx⟩ := o4.rd.word i (by omega)
    rw [Nat.mul_one] at hcx
    have hxl : l[i]? = some x := by
      rw [List.getElem?_append_right (by omega), List.getElem?_drop] at hx
      rw [show i + (i - (visitsT s (l.take i)).2.length) = i by omega] at hx
      exact hx
    have hx64 := hl x (List.mem_of_getElem? hxl)
    have okS : (visitsT s (l.take i)).1.1.Ok := a4.ok
    have nb : ¬ (D = b ∨ D = g ∨ D = c2) := by omega
    have npb : ¬ (p.block = b ∨ p.block = g ∨ p.block = c2) := by
      rintro (e | e | e)
      · exact hb p hp e
      · exact offT o4 a4.hd (by decide) p hp e
      · exact offT o4 k4.first (by decide) p hp e
    refine ⟨fun k => k = b ∨ k = g ∨ k = c2, sl, fun v u => (D4.upd u nb).cell 0, sl, fun v u => (D4.upd u nb).cell 0, by omega, by omega, p, hp, _, fun v u => ?_, ⟨(visit_spec a4 k4 hx64).mono ?_⟩⟩
    · have o := o4.upd u (fun q hq => by rw [hp] at hq; injection hq with hq; rw [← hq]; exact npb)
      obtain ⟨p', x', hp', hx', hc'⟩ := o.rd.word i (by omega)
      rw [Nat.mul_one] at hc'
      rw [hp] at hp'; injection hp' with hp'; subst hp'
      rw [hx] at hx'; injection hx' with hx'; subst hx'
      rw [Int.toNat_natCast]; exact hc'
    rintro e5 w5 ⟨rfl, a5, k5, u5⟩
    have D5 := D4.upd u5 nb
    have o5 := o4.upd u5 (fun q hq => by rw [hp] at hq; injection hq with hq; rw [← hq]; exact npb)
    have hop : sl.a = some p := hp
    refine ⟨_, rfl, u5, by omega, by omega, p, hp, by rw [Int.toNat_natCast]; exact o5.canAt hp (by omega), fun w6 s6 => ?_⟩
    rw [Int.toNat_natCast] at s6
    obtain ⟨o6, u6⟩ := o5.setAt hp (i := i) (by omega) s6
    have hsn := visitsT_snoc (l.take i) s x
    rw [← take_snoc hxl] at hsn
    refine ⟨⟨i + 1, rfl, by omega, ?_, ?_, D5.upd u6 (offT o5 D5 (by decide) p hp).symm, ?_, ?_⟩, by dsimp only; omega⟩
    · rw [hsn]; exact a5.upd u6 (offT o5 a5.hd (by decide) p hp).symm (hb p hp).symm
    · rw [hsn]; exact k5.upd u6 (offT o5 k5.ov (by decide) p hp).symm (offT o5 k5.ar (by decide) p hp).symm (offT o5 k5.first (by decide) p hp).symm
    · rw [hsn]
      dsimp only
      rw [← set_mid (by omega) (by omega), ← uv_set]
      exact o6
    · exact ((U3.trans x4 fun _ _ hn => ⟨hn, not_false⟩).trans u5 fun j _ hn => ⟨hn, fun e => hn (by rcases e with e | e | e; exact .inl e; exact .inr (.inl e); exact .inr (.inr (.inl e)))⟩).trans u6 fun j _ hn => ⟨hn, fun e => hn (.inr (.inr (.inr (.inr ⟨p, hp, e⟩))))⟩
  · have ht : l.take i = l := List.take_of_length_le (by omega)
    have hd : l.drop i = [] := List.drop_eq_nil_of_le (by omega)
    rw [ht] at a3 k3 o3
    rw [hd, List.append_nil] at o3
    exact ⟨a3, k3, D3, o3, U3⟩
end
end Go.Proofs.Ytgbpglfieellpaa.V
namespace Go.Proofs.Ytgbpglfieellpaa.V
open Go Go.RowKit
set_option linter.unusedVariables false
set_option linter.unusedSimpArgs false
set_option maxRecDepth 100000

section
variable {w : World} {b g D B : Nat} {A : Ar} {sl : Sl} {l : List Nat}
theorem lastT_none {A : Ar} {nx : Nat} (h : (lastT A nx).2 = false) : (lastT A nx).1 = 0 := by
  cases hs : stT A (spT A) nx with
  | none => unfold lastT; rw [hs]
  | some hd => unfold lastT at h; rw [hs] at h; cases h
theorem afterT_none {A : Ar} {r : Nat} (h : (afterT A r).2 = false) : (afterT A r).1 = 0 := by
  by_cases h0 : r = 0
  · unfold afterT at h ⊢; rw [if_pos h0] at h ⊢; exact lastT_none h
  · unfold afterT at h ⊢; rw [if_neg h0] at h ⊢
    cases hs : stT A (spT A) r with
    | none => rfl
    | some hd => rw [hs] at h; exact lastT_none h
theorem collectT_ok (h : A.Ok) (hl : ∀ x ∈ l, x < 18446744073709551616) (zero : Bool) : (visitsT ((openT A).1, 0) l).1.1.Ok := visitsT_ok l _ (openT_ok h)
theorem collect_spec {n e calls : Int} {kept : Value} (h : ArW 76 w b g A) (ho : A.opn = false) (hD : Blk w D 39 (doneL sl n e calls kept)) (hs : Own w B 23 1 sl (uv l)) (hb : ∀ q, sl.a = some q → q.block ≠ b)
    (hl : ∀ x ∈ l, x < 18446744073709551616) (hm : l.length ≤ 100000000000000) (hcl : 0 ≤ calls ∧ calls ≤ 1000) (zero : Bool) :
    Calls Try.prog 12 #[.pointer (some ⟨g, 0, none⟩), rootsV D, .bool zero] w fun e' w' => ∃ c0 c1 c2,
      e' = .returned (.tuple #[.int .i64 ((collectT A l zero).1.use.e - (collectT A l zero).1.use.f : Nat), .int .i64 (collectT A l zero).2.2]) ∧ ArW 76 w' b g (collectT A l zero).1 ∧ Blk w' c0 4 [.bool true] ∧ w.heap.size ≤ c0 ∧
      Blk w' D 39 (doneL sl n e (calls + 1) (cloV c0 c1 c2)) ∧ Own w' B 23 1 sl (uv (collectT A l zero).2.1) ∧
      Upd (fun k => k = b ∨ k = g ∨ k = D ∨ ∃ q, sl.a = some q ∧ k = q.block) w w' := by
  refine vc_12 _ _ _ _ _ ?_
  have lb := h.ws.lt; have lg := h.hd.lt; have lD := hD.lt
  have dDb := hD.ne h.ws (by decide); have dDg := hD.ne h.hd (by decide); have dgb := h.hd.ne h.ws (by decide)
  have lS : ∀ q, sl.a = some q → q.block < w.heap.size := fun q hq => (hs.base q hq).2
  have offT : ∀ {v : World} {g' T : Nat} {cs xs : List Value}, Own v B 23 1 sl xs → Blk v g' T cs → T ≠ 23 → ∀ q, sl.a = some q → q.block ≠ g' := fun o bk hT q hq => own_blk_ne o bk (fun e => hT e.symm) q hq
  simp only [eq_self, false_or, or_false, true_and, and_true, decide_eq_true_eq, decide_eq_false_iff_not, gd_st, gd_sf, exists_eq_left', exists_eq_left, Option.some.injEq, Sl.eta, Nat.reduceLeDiff, Int.reduceLE, Int.reduceLT, Int.reduceEq, Int.reduceNe, Nat.reduceMul, Nat.reduceAdd, Nat.reduceSub, Int.toNat_natCast, beq_iff_eq, bne_iff_ne, beq_eq_false_iff_ne, bne_eq_false_iff_eq, pick_and, pick_or, Bool.and_eq_true, Bool.or_eq_true, Bool.and_eq_false_iff, Bool.or_eq_false_iff, ne_eq, not_false_eq_true, Bool.not_eq_true', Bool.not_eq_false', reduceCtorEq, Nat.le_refl, Nat.zero_mul, Nat.mul_one, Nat.zero_add, Int.reduceToNat, ones, one, add_mk, Decidable.not_not, cond_true, cond_false, true_implies, false_implies, implies_true, Bool.not_true, Bool.not_false]
  intro w1 n1
  have z1 := n1.size
  refine ⟨_, (Blk.new n1).cell 0, fun _ => ⟨_, (Blk.new n1).cell 0, ⟨(open_spec (h.ext n1.ext)).mono ?_⟩⟩, fun h => (by cases h)⟩
  rintro e1 w2 ⟨rfl, a2, u2⟩
  have eo : (openT A).2 = 0 := by unfold openT; rw [ho]; rfl
  have U2 : Upd (fun k => k = b ∨ k = g ∨ k = D ∨ ∃ q, sl.a = some q ∧ k = q.block) w w2 := n1.ext.toS.trans u2 fun i _ hn => ⟨hn, fun e => hn (.inr (.inl e))⟩
  refine ⟨_, rfl, fun hne => absurd eo hne, fun _ w3 n3 w4 n4 => ?_⟩
  have z2 := u2.size; have z3 := n3.size; have z4 := n4.size
  have x24 := n3.ext.trans n4.ext
  have f4 : Blk w4 w2.heap.size 26 [.int .i64 0] := (Blk.new n3).ext n4.ext
  refine ⟨f4.canSet 0 (by simp), fun w5 s5 => ?_⟩
  have f5 := s5.blk1 f4
  have v5 := (Blk.new n4).upd s5.upd (by dsimp only; omega)
  refine ⟨v5.canSet 0 (by simp), fun w6 s6 => ?_⟩
  have y26 : Ext w2 w6 := (x24.fresh s5.upd (by rintro i rfl; exact Nat.le_refl _)).fresh s6.upd (by rintro i rfl; dsimp only; omega)
  have k6 : Cl w6 w3.heap.size w.heap.size w2.heap.size g false 0 := ⟨s6.blk1 v5, (((Blk.new n1).upd u2 (by omega)).ext y26), f5.upd s6.upd (by dsimp only; omega)⟩
  have a6 := a2.ext y26
  have D6 := ((hD.ext n1.ext).upd u2 dDg).ext y26
  have o6 := ((hs.ext n1.ext).upd u2 (fun q hq e => offT hs h.hd (by decide) q hq e)).ext y26
  have U6 := U2.trans y26 fun i _ hn => ⟨hn, not_false⟩
  refine ⟨(roots_spec (s := ((openT A).1, 0)) a6 k6 D6 o6 hb hl hm hcl).mono ?_⟩
  rintro e7 w7 ⟨rfl, a7, k7, D7, o7, u7⟩
  have U7 : Upd (fun k => k = b ∨ k = g ∨ k = D ∨ ∃ q, sl.a = some q ∧ k = q.block) w w7 := U6.trans u7 fun i hi hn => ⟨hn, fun e => hn (by
    rcases e with e | e | e | e | e
    · exact .inl e
    · exact .inr (.inl e)
    · omega
    · exact .inr (.inr (.inl e))
    · exact .inr (.inr (.inr e)))⟩
  have ok7 := a7.ok
  have sm7 := (show SameA A (openT A).1 ∨ True from .inr trivial)
  have hn7 : (visitsT ((openT A).1, 0) l).1.1.n = A.n := (visitsT_same l ((openT A).1, 0)).n.trans (by unfold openT; rw [ho]; rfl)
  refine ⟨_, rfl, _, k7.ar.cell 0, ⟨(after_spec a7 (r := 0) (by decide)).mono ?_⟩⟩
  rintro e8 w8 ⟨rfl, x8⟩
  generalize hV : visitsT ((openT A).1, 0) l = V at *
  have eC : collectT A l zero = ((closeT (scanAll (2 * A.n + 1) V.1 (afterT V.1.1 0)).1 zero).1, V.2, (scanAll (2 * A.n + 1) V.1 (afterT V.1.1 0)).2) := by unfold collectT; rw [hV]
  rw [eC]
  generalize hF : scanAll (2 * A.n + 1) V.1 (afterT V.1.1 0) = F at *
  have hn := h.ok.n
  refine ⟨_, _, rfl, fun r p v => ∃ (m k : Nat) (s : St), r = m ∧ m < 18446744073709551616 ∧ ArW 76 v b g s.1 ∧ s.1.n = A.n ∧ Cl v w3.heap.size w.heap.size w2.heap.size g false s.2 ∧ scanAll k s (m, p) = F ∧ (p = true → 2 * A.n + 2 ≤ m + k ∧ m ≤ 2 * A.n) ∧
      Blk v D 39 (doneL sl n e (calls + 1) (cloV w3.heap.size w.heap.size w2.heap.size)) ∧ Own v B 23 1 sl (uv V.2) ∧ Upd (fun k => k = b ∨ k = g ∨ k = D ∨ ∃ q, sl.a = some q ∧ k = q.block) w v,
    fun r p _ => if p = true then (2 * A.n + 1 - r).toNat else 0,
    ⟨(afterT V.1.1 0).1, 2 * A.n + 1, V.1, rfl, ?_, a7.ext x8, hn7, k7.ext x8, hF, ?_, D7.ext x8, o7.ext x8, U7.trans x8 fun i _ hn => ⟨hn, not_false⟩⟩, ?_⟩
  · cases hp : (afterT V.1.1 0).2 with
    | false => have := afterT_none hp; omega
    | true =>
      have := afterT_in ok7 (r := 0) (r' := (afterT V.1.1 0).1) (by rw [← hp])
      omega
  · intro hp
    have := afterT_in ok7 (r := 0) (r' := (afterT V.1.1 0).1) (by rw [← hp])
    omega
  rintro _ r p v ⟨m, k, s, rfl, hm64, av, hsn, kv, hsc, hpk, Dv, ov, Uv⟩
  have lc0 := kv.ov.lt
  refine ⟨fun hp => ?_, fun hp => ?_⟩
  · subst hp
    obtain ⟨hk1, hk2⟩ := hpk rfl
    refine ⟨_, kv.ar.cell 0, ⟨(scan_spec av kv hm64 ⟨av.ws.lt, av.hd.lt⟩).mono ?_⟩⟩
    rintro e9 w9 ⟨rfl, a9, k9, u9⟩
    have hd2 : D ≠ w2.heap.size := by omega
    have D9 := Dv.upd u9 (by omega)
    have o9 := ov.upd u9 (fun q hq e => by
      rcases e with e | e | e
      · exact hb q hq e
      · exact offT hs h.hd (by decide) q hq e
      · have := lS q hq; omega)
    have U9 : Upd (fun k => k = b ∨ k = g ∨ k = D ∨ ∃ q, sl.a = some q ∧ k = q.block) w w9 := Uv.trans u9 fun i hi hn => ⟨hn, fun e => hn (by
      rcases e with e | e | e
      · exact .inl e
      · exact .inr (.inl e)
      · omega)⟩
    refine ⟨_, rfl, _, k9.ar.cell 0, ⟨(after_spec a9 hm64).mono ?_⟩⟩
    rintro e10 w10 ⟨rfl, x10⟩
    have ok9 := a9.ok
    have hsn9 : (scanT s m).1.n = A.n := (scanN_same s _ m _).n.trans hsn
    obtain ⟨k', rfl⟩ : ∃ k', k = k' + 1 := ⟨k - 1, by omega⟩
    have hsc' : scanAll k' (scanT s m) ((afterT (scanT s m).1 m).1, (afterT (scanT s m).1 m).2) = F := by
      rw [← hsc]
      conv => rhs; unfold scanAll; rw [if_pos rfl]
    have hin : (afterT (scanT s m).1 m).2 = true → m < (afterT (scanT s m).1 m).1 ∧ (afterT (scanT s m).1 m).1 ≤ 2 * A.n := by
      intro hp
      have := afterT_in ok9 (r := m) (r' := (afterT (scanT s m).1 m).1) (by rw [← hp])
      omega
    refine ⟨_, _, rfl, ⟨(afterT (scanT s m).1 m).1, k', scanT s m, rfl, ?_, a9.ext x10, hsn9, k9.ext x10, hsc', fun hp => ?_, D9.ext x10, o9.ext x10, U9.trans x10 fun i _ hn => ⟨hn, not_false⟩⟩, ?_⟩
    · cases hp : (afterT (scanT s m).1 m).2 with
      | false =>
        have hz := afterT_none hp
        omega
      | true => have := hin hp; omega
    · have := hin hp; omega
    · dsimp only
      rw [if_pos rfl]
      split
      · rename_i hp; have := hin hp; omega
      · omega
  · subst hp
    rw [scanAll_false] at hsc
    subst hsc
    refine ⟨_, kv.ar.cell 0, ⟨(close_spec av zero).mono ?_⟩⟩
    rintro e9 w9 ⟨rfl, a9, u9⟩
    have k9 := kv.upd u9 (by omega) (by omega) (by omega)
    refine ⟨_, rfl, k9.ov.canSet 0 (by simp), fun w10 s10 w11 q11 => ?_⟩
    have v10 := s10.blk1 k9.ov
    have d0 : w3.heap.size ≠ b := by omega
    have a10 := a9.upd s10.upd (by dsimp only; omega) (by dsimp only; omega)
    have ar10 := k9.ar.upd s10.upd (by dsimp only; omega)
    have f10 := k9.first.upd s10.upd (by dsimp only; omega)
    have D10 := (Dv.upd u9 (by omega)).upd s10.upd (by dsimp only; omega)
    have o10 := (ov.upd u9 (fun q hq e => by
      rcases e with e | e
      · exact hb q hq e
      · exact offT hs h.hd (by decide) q hq e)).upd s10.upd (fun q hq e => by have := lS q hq; dsimp only at e; omega)
    have U10 : Upd (fun k => k = b ∨ k = g ∨ k = D ∨ ∃ q, sl.a = some q ∧ k = q.block) w w10 := (Uv.trans u9 fun i hi hn => ⟨hn, fun e => hn (by
      rcases e with e | e
      · exact .inl e
      · exact .inr (.inl e))⟩).trans s10.upd fun i hi hn => ⟨hn, fun e => by dsimp only at e; omega⟩
    have x11 := q11.ext
    refine ⟨fun _ => False, _, fun v u => ((ar10.ext x11).ext u).cell 0, _, fun v u => ((f10.ext x11).ext u).cell 0, ⟨(used_spec (a10.ext x11)).mono ?_⟩⟩
    rintro e12 w12 ⟨rfl, q12⟩
    have x12 := x11.trans q12.ext
    exact ⟨_, rfl, q12.ext, _, _, _, rfl, a10.ext x12, v10.ext x12, by omega, D10.ext x12, o10.ext x12, U10.trans x12 fun i _ hn => ⟨hn, not_false⟩⟩
end
end Go.Proofs.Ytgbpglfieellpaa.V
namespace Go.Proofs.Ytgbpglfieellpaa.V
open Go Go.RowKit
set_option linter.unusedVariables false
set_option linter.unusedSimpArgs false
set_option maxRecDepth 100000

abbrev doneV (s : Sl) (n e calls : Int) (kept : Value) : Value := .agg #[.slice s.a s.n s.c, .int .i64 n, .int .i64 e, .int .i64 calls, kept]
section
variable {w : World} {b g : Nat} {A : Ar} {l : Sl} {ls : List Nat}
/-- Collect refuses: no arena -/
theorem collect_nil (D : Nat) (zero : Bool) (w : World) :
    Calls Try.prog 12 #[.pointer none, rootsV D, .bool zero] w fun e' w' => e' = .returned (.tuple #[.int .i64 0, .int .i64 1]) ∧ Ext w w' := by
  refine vc_12 _ _ _ _ _ ?_
  simp only [eq_self, false_or, or_false, true_and, and_true, decide_eq_true_eq, decide_eq_false_iff_not, gd_st, gd_sf, exists_eq_left', exists_eq_left, Option.some.injEq, Sl.eta, Nat.reduceLeDiff, Int.reduceLE, Int.reduceLT, Int.reduceEq, Int.reduceNe, Nat.reduceMul, Nat.reduceAdd, Nat.reduceSub, Int.toNat_natCast, beq_iff_eq, bne_iff_ne, beq_eq_false_iff_ne, bne_eq_false_iff_eq, pick_and, pick_or, Bool.and_eq_true, Bool.or_eq_true, Bool.and_eq_false_iff, Bool.or_eq_false_iff, ne_eq, not_false_eq_true, Bool.not_eq_true', Bool.not_eq_false', reduceCtorEq, Nat.le_refl, Nat.zero_mul, Nat.mul_one, Nat.zero_add, Int.reduceToNat, ones, one, add_mk, Decidable.not_not, cond_true, cond_false, true_implies, false_implies, implies_true, Bool.not_true, Bool.not_false]
  intro w1 n1
  exact ⟨_, (Blk.new n1).cell 0, fun h => (by cases h), fun _ => n1.ext⟩
theorem collect_noroots (a : Option Addr) (zero : Bool) (w : World) :
    Calls Try.prog 12 #[.pointer a, .nilFunc, .bool zero] w fun e' w' => e' = .returned (.tuple #[.int .i64 0, .int .i64 1]) ∧ Ext w w' := by
  refine vn_12 _ _ _ _ ?_
  simp only [eq_self, false_or, or_false, true_and, and_true, decide_eq_true_eq, decide_eq_false_iff_not, gd_st, gd_sf, exists_eq_left', exists_eq_left, Option.some.injEq, Sl.eta, Nat.reduceLeDiff, Int.reduceLE, Int.reduceLT, Int.reduceEq, Int.reduceNe, Nat.reduceMul, Nat.reduceAdd, Nat.reduceSub, Int.toNat_natCast, beq_iff_eq, bne_iff_ne, beq_eq_false_iff_ne, bne_eq_false_iff_eq, pick_and, pick_or, Bool.and_eq_true, Bool.or_eq_true, Bool.and_eq_false_iff, Bool.or_eq_false_iff, ne_eq, not_false_eq_true, Bool.not_eq_true', Bool.not_eq_false', reduceCtorEq, Nat.le_refl, Nat.zero_mul, Nat.mul_one, Nat.zero_add, Int.reduceToNat, ones, one, add_mk, Decidable.not_not, cond_true, cond_false, true_implies, false_implies, implies_true, Bool.not_true, Bool.not_false]
  intro w1 n1
  exact ⟨_, (Blk.new n1).cell 0, fun _ => n1.ext, fun _ => n1.ext⟩
/-- Collect refuses: the arena is open -/
theorem collect_open (h : ArW 76 w b g A) (ho : A.opn = true) (D : Nat) (zero : Bool) :
    Calls Try.prog 12 #[.pointer (some ⟨g, 0, none⟩), rootsV D, .bool zero] w fun e' w' => e' = .returned (.tuple #[.int .i64 0, .int .i64 1]) ∧ ArW 76 w' b g A ∧ Upd (fun k => k = g) w w' := by
  refine vc_12 _ _ _ _ _ ?_
  simp only [eq_self, false_or, or_false, true_and, and_true, decide_eq_true_eq, decide_eq_false_iff_not, gd_st, gd_sf, exists_eq_left', exists_eq_left, Option.some.injEq, Sl.eta, Nat.reduceLeDiff, Int.reduceLE, Int.reduceLT, Int.reduceEq, Int.reduceNe, Nat.reduceMul, Nat.reduceAdd, Nat.reduceSub, Int.toNat_natCast, beq_iff_eq, bne_iff_ne, beq_eq_false_iff_ne, bne_eq_false_iff_eq, pick_and, pick_or, Bool.and_eq_true, Bool.or_eq_true, Bool.and_eq_false_iff, Bool.or_eq_false_iff, ne_eq, not_false_eq_true, Bool.not_eq_true', Bool.not_eq_false', reduceCtorEq, Nat.le_refl, Nat.zero_mul, Nat.mul_one, Nat.zero_add, Int.reduceToNat, ones, one, add_mk, Decidable.not_not, cond_true, cond_false, true_implies, false_implies, implies_true, Bool.not_true, Bool.not_false]
  intro w1 n1
  refine ⟨_, (Blk.new n1).cell 0, fun _ => ⟨_, (Blk.new n1).cell 0, ⟨(open_spec (h.ext n1.ext)).mono ?_⟩⟩, fun h => (by cases h)⟩
  rintro e1 w2 ⟨rfl, a2, u2⟩
  have eo : openT A = (A, 1) := by unfold openT; rw [ho]; rfl
  rw [eo] at a2 ⊢
  exact ⟨_, rfl, fun _ => ⟨a2, n1.ext.toS.trans u2 fun i _ hn => ⟨hn, hn⟩⟩, fun h => (by cases h)⟩
/-- what visited does with any Collect -/
theorem visited_of {a : Option Addr} {zero : Bool} (hr : Rd w 1 l (uv ls)) (hm : ls.length ≤ 17592186043905) (Q : Sl → Nat → Int → Int → Int → Value → World → Prop) (R : Ending → World → Prop)
    (hc : ∀ (s : Sl) (D : Nat) (w5 : World), Ext w w5 → w.heap.size < D → Blk w5 D 39 (doneL s 0 0 0 .nilFunc) → Own w5 w.heap.size 23 1 s (uv ls) → (∀ q, s.a = some q → w.heap.size < q.block ∧ q.block < D) → D < w5.heap.size →
      Calls Try.prog 12 #[.pointer a, rootsV D, .bool zero] w5 fun e' w' => ∃ n e calls kept, e' = .returned (.tuple #[.int .i64 n, .int .i64 e]) ∧ Blk w' D 39 (doneL s 0 0 calls kept) ∧ (∀ cs, Blk w5 w.heap.size 39 cs → Blk w' w.heap.size 39 cs) ∧ Q s D n e calls kept w' ∧
        (kept = .nilFunc ∨ ∃ c0 c1 c2 : Option Addr, kept = .func (.func 32) #[] #[.pointer c0, .pointer c1, .pointer c2]) ∧
        (∀ w'', Upd (fun k => k = D ∨ k = w.heap.size) w' w'' → R (.returned (doneV s n e calls kept)) w'')) :
    Calls Try.prog 14 #[.pointer a, .slice l.a l.n l.c, .bool zero] w R := by
  refine vc_14 _ _ _ _ _ ?_
  have ln := hr.lenu
  simp only [eq_self, false_or, or_false, true_and, and_true, decide_eq_true_eq, decide_eq_false_iff_not, gd_st, gd_sf, exists_eq_left', exists_eq_left, Option.some.injEq, Sl.eta, Nat.reduceLeDiff, Int.reduceLE, Int.reduceLT, Int.reduceEq, Int.reduceNe, Nat.reduceMul, Nat.reduceAdd, Nat.reduceSub, Int.toNat_natCast, beq_iff_eq, bne_iff_ne, beq_eq_false_iff_ne, bne_eq_false_iff_eq, pick_and, pick_or, Bool.and_eq_true, Bool.or_eq_true, Bool.and_eq_false_iff, Bool.or_eq_false_iff, ne_eq, not_false_eq_true, Bool.not_eq_true', Bool.not_eq_false', reduceCtorEq, Nat.le_refl, Nat.zero_mul, Nat.mul_one, Nat.zero_add, Int.reduceToNat, ones, one, add_mk, Decidable.not_not, cond_true, cond_false, true_implies, false_implies, implies_true, Bool.not_true, Bool.not_false]
  intro w1 n1 w2 n2
  have z1 := n1.size; have z2 := n2.size
  have o2 : Own w2 w1.heap.size 23 1 ⟨some ⟨w1.heap.size, 0, none⟩, 0, 0⟩ (uv []) := Own.lit (z := 1) (n := 0) (cs := []) n2 (Nat.le_refl _) rfl (by decide)
  obtain ⟨s, w3, hr3, hn3, o3, u3, c3⟩ := o2.append (t := 30) (ty := 30) tab_ok (by rfl) (by rfl) (by decide) (hr.ext (n1.ext.trans n2.ext)) (uv_ones _) (by dsimp only; omega) (by dsimp only; omega) (by omega)
  have x13 : Ext w1 w3 := n2.ext.fresh u3 (by rintro i ⟨q, hq, rfl⟩; exact (o2.base q hq).1)
  have z3 := u3.size
  refine ⟨s, w3, hr3, fun w4 n4 => ⟨by simp [len', wr], (Blk.new n4).canSetN 0 5 (by simp), fun w5 s5 => ?_⟩⟩
  have z4 := n4.size; have z5 := s5.size
  have D5 := s5.blk (Blk.new n4)
  simp only [setsL, List.set] at D5
  have x35 : Ext w3 w5 := n4.ext.fresh s5.upd (by rintro i rfl; exact Nat.le_refl _)
  have x05 := (n1.ext.trans x13).trans x35
  have o5 : Own w5 w.heap.size 23 1 s (uv ls) := (o3.ext x35).mono (by omega)
  have G5 := (Blk.new n1).ext (x13.trans x35)
  have hsq : ∀ q, s.a = some q → w.heap.size < q.block ∧ q.block < w3.heap.size := fun q hq => by have := o3.base q hq; omega
  refine ⟨(hc s w3.heap.size w5 x05 (by omega) D5 o5 hsq (by have := D5.lt; omega)).mono ?_⟩
  rintro e' w6 ⟨n, e, calls, kept, rfl, D6, hG, _, hk, hR⟩
  have G6 := hG _ G5
  have nG : w.heap.size ≠ w3.heap.size := by omega
  refine ⟨_, _, rfl, D6.canSet 1 (by simp), fun w7 s7 => ?_⟩
  have D7 := s7.blk1 D6
  refine ⟨D7.canSet 2 (by simp), fun w8 s8 => ?_⟩
  have D8 := s8.blk1 D7
  simp only [List.set] at D7 D8
  have G8 := (G6.upd s7.upd (by dsimp only; omega)).upd s8.upd (by dsimp only; omega)
  have U8 : Upd (fun k => k = w3.heap.size ∨ k = w.heap.size) w6 w8 := (s7.upd.trans s8.upd fun i _ hn => ⟨hn, hn⟩).mono fun i _ hn e => hn (.inl e)
  refine ⟨s, n, e, calls, ?_⟩
  rcases hk with rfl | ⟨c0, c1, c2, rfl⟩
  · left
    refine ⟨rfl, ⟨D8.cell 0, D8.cell 1, D8.cell 2, D8.cell 3, D8.cell 4⟩, rfl, G8.canSetN 0 5 (by simp), fun w9 s9 => ?_⟩
    have G9 := s9.blk G8
    simp only [setsL, List.set] at G9
    exact ⟨s, n, e, calls, .inl ⟨rfl, ⟨G9.cell 0, G9.cell 1, G9.cell 2, G9.cell 3, G9.cell 4⟩, hR _ (U8.trans s9.upd fun i _ hn => ⟨hn, fun e => hn (.inr e)⟩)⟩⟩
  · right
    refine ⟨c0, c1, c2, rfl, ⟨D8.cell 0, D8.cell 1, D8.cell 2, D8.cell 3, D8.cell 4⟩, rfl, G8.canSetN 0 5 (by simp), fun w9 s9 => ?_⟩
    have G9 := s9.blk G8
    simp only [setsL, List.set] at G9
    exact ⟨s, n, e, calls, .inr ⟨c0, c1, c2, rfl, ⟨G9.cell 0, G9.cell 1, G9.cell 2, G9.cell 3, G9.cell 4⟩, hR _ (U8.trans s9.upd fun i _ hn => ⟨hn, fun e => hn (.inr e)⟩)⟩⟩
/-- what came out of a Collect that was done -/
structure Vis (w w' : World) (b g c0 : Nat) (s : Sl) (A : Ar) (ls : List Nat) (zero : Bool) : Prop where
  own : Own w' w.heap.size 23 1 s (uv (collectT A ls zero).2.1)
  ar : ArW 76 w' b g (collectT A ls zero).1
  ov : Blk w' c0 4 [.bool true]
  hi : w.heap.size ≤ c0
  u : Upd (fun k => k = b ∨ k = g) w w'
theorem visited_spec (h : ArW 76 w b g A) (ho : A.opn = false) (hr : Rd w 1 l (uv ls)) (hl : ∀ x ∈ ls, x < 18446744073709551616) (hm : ls.length ≤ 17592186043905) (zero : Bool) :
    Calls Try.prog 14 #[.pointer (some ⟨g, 0, none⟩), .slice l.a l.n l.c, .bool zero] w fun e' w' => ∃ s c0 c1 c2,
      e' = .returned (doneV s ((collectT A ls zero).1.use.e - (collectT A ls zero).1.use.f : Nat) (collectT A ls zero).2.2 1 (cloV c0 c1 c2)) ∧ Vis w w' b g c0 s A ls zero := by
  refine visited_of hr hm (fun s D n e calls kept w' => True) _ ?_
  intro s D w5 x05 hD D5 o5 hsq hDl
  have lb := h.ws.lt; have lg := h.hd.lt
  refine (collect_spec (h.ext x05) ho D5 o5 (fun q hq => by have := hsq q hq; omega) hl (by omega) ⟨by decide, by decide⟩ zero).mono ?_
  rintro e' w6 ⟨c0, c1, c2, rfl, a6, v6, hc0, D6, o6, u6⟩
  have z5 := x05.size
  refine ⟨_, _, _, _, rfl, D6, fun cs G => G.upd u6 ?_, trivial, .inr ⟨_, _, _, rfl⟩, fun w' u' => ⟨s, c0, c1, c2, rfl, ?_⟩⟩
  · rintro (e | e | e | ⟨q, hq, e⟩)
    · omega
    · omega
    · omega
    · have := hsq q hq; omega
  · refine ⟨o6.upd u' (fun q hq e => by have := hsq q hq; omega), a6.upd u' (by omega) (by omega), v6.upd u' (by omega), by omega, ?_⟩
    refine (x05.toS.trans u6 fun i hi hn => ⟨hn, ?_⟩).trans u' fun i hi hn => ⟨hn, by omega⟩
    rintro (e | e | e | ⟨q, hq, e⟩)
    · exact hn (.inl e)
    · exact hn (.inr e)
    · omega
    · have := hsq q hq; omega
/-- refused: nothing is visited -/
theorem visited_none (hr : Rd w 1 l (uv ls)) (hm : ls.length ≤ 17592186043905) (zero : Bool) :
    Calls Try.prog 14 #[.pointer none, .slice l.a l.n l.c, .bool zero] w fun e' w' => ∃ s, e' = .returned (doneV s 0 1 0 .nilFunc) ∧ Ext w w' := by
  refine visited_of hr hm (fun s D n e calls kept w' => True) _ ?_
  intro s D w5 x05 hD D5 o5 hsq hDl
  refine (collect_nil D zero w5).mono ?_
  rintro e' w6 ⟨rfl, x6⟩
  exact ⟨_, _, _, _, rfl, D5.ext x6, fun cs G => G.ext x6, trivial, .inl rfl, fun w' u' => ⟨s, rfl, (x05.trans x6).fresh u' (by rintro i (rfl | rfl) <;> omega)⟩⟩
theorem visited_open (h : ArW 76 w b g A) (ho : A.opn = true) (hr : Rd w 1 l (uv ls)) (hm : ls.length ≤ 17592186043905) (zero : Bool) :
    Calls Try.prog 14 #[.pointer (some ⟨g, 0, none⟩), .slice l.a l.n l.c, .bool zero] w fun e' w' => ∃ s, e' = .returned (doneV s 0 1 0 .nilFunc) ∧ ArW 76 w' b g A ∧ Upd (fun k => k = g) w w' := by
  refine visited_of hr hm (fun s D n e calls kept w' => True) _ ?_
  intro s D w5 x05 hD D5 o5 hsq hDl
  have lb := h.ws.lt; have lg := h.hd.lt
  refine (collect_open (h.ext x05) ho D zero).mono ?_
  rintro e' w6 ⟨rfl, a6, u6⟩
  exact ⟨_, _, _, _, rfl, D5.upd u6 (by omega), fun cs G => G.upd u6 (by omega), trivial, .inl rfl, fun w' u' => ⟨s, rfl, a6.upd u' (by omega) (by omega), (x05.toS.trans u6 fun i hi hn => ⟨hn, hn⟩).trans u' fun i hi hn => ⟨hn, by omega⟩⟩⟩
end
end Go.Proofs.Ytgbpglfieellpaa.V
namespace Go.Proofs.Ytgbpglfieellpaa.V
open Go Go.RowKit
set_option linter.unusedVariables false
set_option linter.unusedSimpArgs false
set_option maxRecDepth 100000

def shH1 : Hd := ⟨1, 2, 2, 2⟩
def shH2 : Hd := ⟨2, 3, 0, 0⟩
def shA1 : Ar := (makeT (newA 10) shH1 [7, 0]).1
def shA2 : Ar := (makeT shA1 shH2 []).1
def shA3 : Ar := (setO shA2 1 1 5).1
theorem sh_1 : (makeT (newA 10) shH1 [7, 0]).2 = (1, 0) := by kernel_rfl
theorem sh_2 : (makeT shA1 shH2 []).2 = (5, 0) := by kernel_rfl
theorem sh_o : shA3.opn = false := by kernel_rfl
theorem sh_c : (collectT shA3 [1, 1, 0] false).2 = ([11, 11, 0], 0) := by kernel_rfl
theorem sh_u : (collectT shA3 [1, 1, 0] false).1.use.e - (collectT shA3 [1, 1, 0] false).1.use.f = 6 := by kernel_rfl
theorem sh_w : cellO (collectT shA3 [1, 1, 0] false).1 11 1 = (15, 0) := by kernel_rfl
theorem shown_spec (w : World) : Calls Try.prog 7 #[] w fun e w' => e = .returned (.bool true) ∧ Ext w w' := by
  refine vc_7 _ _ ?_
  simp only [eq_self, false_or, or_false, true_and, and_true, decide_eq_true_eq, decide_eq_false_iff_not, gd_st, gd_sf, exists_eq_left', exists_eq_left, Option.some.injEq, Sl.eta, Nat.reduceLeDiff, Int.reduceLE, Int.reduceLT, Int.reduceEq, Int.reduceNe, Nat.reduceMul, Nat.reduceAdd, Nat.reduceSub, Int.toNat_natCast, beq_iff_eq, bne_iff_ne, beq_eq_false_iff_ne, bne_eq_false_iff_eq, pick_and, pick_or, Bool.and_eq_true, Bool.or_eq_true, Bool.and_eq_false_iff, Bool.or_eq_false_iff, ne_eq, not_false_eq_true, Bool.not_eq_true', Bool.not_eq_false', reduceCtorEq, Nat.le_refl, Nat.zero_mul, Nat.mul_one, Nat.zero_add, Int.reduceToNat, ones, one, add_mk, Decidable.not_not, cond_true, cond_false, true_implies, false_implies, implies_true, Bool.not_true, Bool.not_false]
  refine ⟨(new_spec (n := 10) (by decide) w).mono ?_⟩
  rintro e w1 ⟨x1, ⟨hno, _⟩ | ⟨k, b, g, hk, _, rfl, hb, hg, a1⟩⟩
  · exact absurd (by decide) hno
  obtain rfl : k = 10 := by omega
  refine ⟨_, _, rfl, fun _ => ⟨fun h => absurd rfl h, fun _ => ⟨(all_spec g w1).mono ?_⟩⟩, fun h => (by cases h)⟩
  rintro e w2 ⟨rfl, _, x2⟩
  refine ⟨_, rfl, fun w6 n6 => ?_⟩
  have x16 := x2.trans n6.ext
  have x06 := x1.trans x16
  have a6 := a1.ext x16
  have k6 := Blk.new n6
  have rd6 : Rd w6 1 ⟨some ⟨w2.heap.size, 0, none⟩, 2, 2⟩ (uv [7, 0]) := k6.rd (z := 1) (o := 0) (n := 2) (c := 2) (by simp)
  have z5 := x2.size
  have hbl := a1.ws.lt; have hgl := a1.hd.lt
  refine ⟨(make_spec a6 shH1 rd6 (by rintro p hp; cases hp; rintro (h | h) <;> (dsimp only at h; omega)) (by simp) (by decide)).mono ?_⟩
  rintro e w7 ⟨rfl, a7, u7⟩
  rw [sh_1]
  have a7' : ArW 76 w7 b g shA1 := a7
  refine ⟨_, _, rfl, ⟨(make_spec a7' shH2 (s := ⟨none, 0, 0⟩) (cs := []) (Rd.nil _ _ _ _) (by rintro p hp; cases hp) (by simp) (by simp)).mono ?_⟩⟩
  rintro e w8 ⟨rfl, a8, u8⟩
  rw [sh_2]
  have a8' : ArW 76 w8 b g shA2 := a8
  refine ⟨_, _, rfl, ⟨(SetCell_spec a8' (r := 1) (by decide) (i := 1) (by decide) (x := 5) (by decide)).mono ?_⟩⟩
  rintro e w9 ⟨rfl, a9, u9⟩
  have a9' : ArW 76 w9 b g shA3 := a9
  refine ⟨_, rfl, fun w10 n10 => ?_⟩
  have rd10 : Rd w10 1 ⟨some ⟨w9.heap.size, 0, none⟩, 3, 3⟩ (uv [1, 1, 0]) := (Blk.new n10).rd (z := 1) (o := 0) (n := 3) (c := 3) (by simp)
  have a10 := a9'.ext n10.ext
  refine ⟨(visited_spec a10 sh_o rd10 (by decide) (by simp) false).mono ?_⟩
  rintro e w11 ⟨s, c0, c1, c2, rfl, V⟩
  obtain ⟨own, ar, ov, hi, u11⟩ := V
  rw [sh_u, sh_c]
  rw [sh_c] at own
  refine ⟨_, _, _, _, .inr ⟨_, _, _, rfl, fun w12 n12 => ⟨rfl, (Blk.new n12).canSetN 0 5 (by simp), fun w13 s13 => ?_⟩⟩⟩
  have G13 := s13.blk (Blk.new n12)
  simp only [setsL, List.set] at G13
  have x13 : Ext w11 w13 := n12.ext.fresh s13.upd (by rintro i rfl; exact Nat.le_refl _)
  refine ⟨(Cell_spec (ar.ext x13) (r := 11) (by decide) (i := 1) (by decide)).mono ?_⟩
  rintro e w14 ⟨rfl, x14⟩
  rw [sh_w]
  have y14 := x13.trans x14
  have o14 := own.ext y14
  have G14 := G13.ext x14
  have ln := o14.rd.lenu
  dsimp only [List.length] at ln
  obtain ⟨p, hp, hc⟩ := o14.rd.2 (by omega)
  have F : Ext w w14 := by
    have f : ∀ {v v' : World} {S : Nat → Prop}, Ext w v → Upd S v v' → (∀ i, S i → w.heap.size ≤ i) → Ext w v' := fun x u h => x.fresh u h
    have hbg : ∀ i, (i = b ∨ i = g) → w.heap.size ≤ i := by rintro i (rfl | rfl) <;> assumption
    exact (f ((f (f (f x06 u7 hbg) u8 hbg) u9 (by rintro i rfl; exact hb)).trans n10.ext) u11 hbg).trans y14
  refine ⟨_, _, rfl, s, G14.cell 0, by omega, p, hp, _, hc 0 _ rfl, fun _ => ⟨s, G14.cell 0, by omega, p, hp, _, hc 1 _ rfl, fun _ => ⟨s, G14.cell 0, by omega, p, hp, _, hc 2 _ rfl, fun _ => ⟨_, G14.cell 1, fun _ => ⟨_, G14.cell 2, fun _ => ⟨fun _ => ⟨rfl, F⟩, fun h => absurd rfl h⟩, fun h => absurd rfl h⟩, fun h => absurd rfl h⟩, fun h => absurd rfl h⟩, fun h => absurd rfl h⟩, fun h => absurd rfl h⟩
end Go.Proofs.Ytgbpglfieellpaa.V
