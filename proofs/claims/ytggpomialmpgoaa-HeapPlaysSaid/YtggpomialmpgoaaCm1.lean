/-
  The document's Collect; twin; spoilt.
-/
import Derived.Test.YtggpomialmpgoaaChA
namespace Go.Proofs.Ytggpomialmpgoaa.V
open Go Go.RowKit
set_option linter.unusedVariables false
set_option linter.unusedSimpArgs false
set_option maxRecDepth 100000

def Fst (s : St) : Prop := s.2 = 0 ∨ s.2 = 21
def wh (s : St) : Bool := decide (s.2 = 0)
def okT (A : Ar) (r : Nat) : Bool := decide ((copyT A r).2.2 = 0)
theorem visitT_fst {s : St} (h : Fst s) (r : Nat) : Fst (visitT s r).1 := by
  unfold visitT
  split
  · exact h
  · exact .inr rfl
theorem visitT_wh (s : St) (r : Nat) : wh (visitT s r).1 = (wh s && okT s.1 r) := by
  unfold visitT okT
  by_cases h : (copyT s.1 r).2.2 = 0
  · rw [if_pos h, decide_eq_true h, Bool.and_true]; rfl
  · rw [if_neg h, decide_eq_false h, Bool.and_false]; rfl
theorem scanN_fst {s : St} (h : Fst s) (hd : Hd) (r : Nat) : ∀ i, Fst (scanN hd r i s)
  | 0 => h
  | i + 1 => by
    unfold scanN
    split
    · exact visitT_fst (scanN_fst h hd r i) _
    · exact scanN_fst h hd r i
theorem scanN_ok' {s : St} (h : s.1.Ok) (hd : Hd) (r : Nat) (i : Nat) : (scanN hd r i s).1.Ok := scanN_ok h hd r i
theorem visitsT_fst : ∀ (l : List Nat) (s : St), Fst s → Fst (visitsT s l).1
  | [], _, h => h
  | r :: l, s, h => visitsT_fst l _ (visitT_fst h r)
theorem scanAll_fst : ∀ (k : Nat) (s : St) (p : Nat × Bool), Fst s → Fst (scanAll k s p)
  | 0, _, _, h => h
  | k + 1, s, p, h => by
    unfold scanAll
    split
    · exact scanAll_fst k _ _ (scanN_fst h _ _ _)
    · exact h
section
variable {w : World} {b g : Nat}
theorem rvisit_spec {s : St} (h : ArW 71 w b g s.1) {r : Nat} (hr : r < 18446744073709551616) :
    Calls Try.prog 68 #[.pointer (some ⟨g, 0, none⟩), .int .u64 (r : Nat)] w fun e w' =>
      e = .returned (.tuple #[.int .u64 ((visitT s r).2 : Nat), .bool (okT s.1 r)]) ∧ ArW 71 w' b g (visitT s r).1.1 ∧ Upd (fun k => k = b ∨ k = g) w w' := by
  refine vc_68 _ _ _ _ ?_
  simp only [eq_self, false_or, or_false, true_and, and_true, decide_eq_true_eq, decide_eq_false_iff_not, gd_st, gd_sf, exists_eq_left', exists_eq_left, Option.some.injEq, Sl.eta, Nat.reduceLeDiff, Int.reduceLE, Int.reduceLT, Int.reduceEq, Int.reduceNe, Nat.reduceMul, Nat.reduceAdd, Nat.reduceSub, Int.toNat_natCast, beq_iff_eq, bne_iff_ne, beq_eq_false_iff_ne, bne_eq_false_iff_eq, pick_and, pick_or, Bool.and_eq_true, Bool.or_eq_true, Bool.and_eq_false_iff, Bool.or_eq_false_iff, ne_eq, not_false_eq_true, Bool.not_eq_true', Bool.not_eq_false', reduceCtorEq, Nat.le_refl, Nat.zero_mul, Nat.mul_one, Nat.zero_add, Int.reduceToNat, ones, one, add_mk, Decidable.not_not, cond_true, cond_false, true_implies, false_implies, implies_true, Bool.not_true, Bool.not_false]
  refine ⟨(rcopy_spec h hr).mono ?_⟩
  rintro e w1 ⟨rfl, a1, u1⟩
  refine ⟨_, _, rfl, fun hne => ?_, fun he => ?_⟩
  · have e1 : visitT s r = (((copyT s.1 r).1, 21), r) := by unfold visitT; rw [if_neg hne]
    have e2 : okT s.1 r = false := decide_eq_false hne
    rw [e1, e2]
    exact ⟨rfl, a1, u1⟩
  · have e1 : visitT s r = (((copyT s.1 r).1, s.2), (copyT s.1 r).2.1) := by unfold visitT; rw [if_pos he]
    have e2 : okT s.1 r = true := decide_eq_true he
    rw [e1, e2]
    exact ⟨rfl, a1, u1⟩
theorem wh_next {s : St} {r : Nat} {R : Bool → Prop} (h : R (wh (visitT s r).1)) : (wh s = true → R (okT s.1 r)) ∧ (wh s = false → R false) := by
  rw [visitT_wh] at h
  exact ⟨fun e => by rw [e, Bool.true_and] at h; exact h, fun e => by rw [e, Bool.false_and] at h; exact h⟩
theorem Rd.upd0 {w w' : World} {S : Nat → Prop} {z : Nat} {s : Sl} {xs : List Value} (h : Rd w z s xs) (k : Upd S w w') (hS : 0 < s.n → s.off S) : Rd w' z s xs :=
  ⟨h.1, fun hn => (h.upd k (hS hn)).2 hn⟩
theorem rcollect_spec {A : Ar} {l : Sl} {ls : List Nat} (h : ArW 71 w b g A) (ho : A.opn = false) (hs : Rd w 1 l (uv ls)) (hb : 0 < l.n → l.off fun k => k = b ∨ k = g) (hl : ∀ x ∈ ls, x < 18446744073709551616) (hm : ls.length ≤ 17592186043905) (zero : Bool) :
    Calls Try.prog 63 #[.pointer (some ⟨g, 0, none⟩), .slice l.a l.n l.c, .bool zero] w fun e' w' => ∃ s',
      e' = .returned (.tuple #[.slice s'.a s'.n s'.c, .int .i64 ((collectT A ls zero).1.use.e - (collectT A ls zero).1.use.f : Nat), .int .i64 (collectT A ls zero).2.2]) ∧ ArW 71 w' b g (collectT A ls zero).1 ∧ Own w' w.heap.size 35 1 s' (uv (collectT A ls zero).2.1) ∧ Upd (fun k => k = b ∨ k = g) w w' := by
  refine vc_63 _ _ _ _ _ ?_
  have lb := h.ws.lt; have lg := h.hd.lt
  have ln := hs.lenu
  simp only [eq_self, false_or, or_false, true_and, and_true, decide_eq_true_eq, decide_eq_false_iff_not, gd_st, gd_sf, exists_eq_left', exists_eq_left, Option.some.injEq, Sl.eta, Nat.reduceLeDiff, Int.reduceLE, Int.reduceLT, Int.reduceEq, Int.reduceNe, Nat.reduceMul, Nat.reduceAdd, Nat.reduceSub, Int.toNat_natCast, beq_iff_eq, bne_iff_ne, beq_eq_false_iff_ne, bne_eq_false_iff_eq, pick_and, pick_or, Bool.and_eq_true, Bool.or_eq_true, Bool.and_eq_false_iff, Bool.or_eq_false_iff, ne_eq, not_false_eq_true, Bool.not_eq_true', Bool.not_eq_false', reduceCtorEq, Nat.le_refl, Nat.zero_mul, Nat.mul_one, Nat.zero_add, Int.reduceToNat, ones, one, add_mk, Decidable.not_not, cond_true, cond_false, true_implies, false_implies, implies_true, Bool.not_true, Bool.not_false]
  refine ⟨(begin_spec h).mono ?_⟩
  rintro e w1 ⟨rfl, a1, u1⟩
  have eo : (openT A).2 = 0 := by unfold openT; rw [ho]; rfl
  have z1 := u1.size
  have hn : A.n ≤ 65536 := h.ok.n
  refine ⟨_, rfl, fun hne => absurd eo hne, fun _ => ?_⟩
  refine ⟨fun bb r i w' => ∃ k : Nat, i = (k : Nat) ∧ k ≤ ls.length ∧ bb = wh (visitsT ((openT A).1, 0) (ls.take k)).1 ∧ ArW 71 w' b g (visitsT ((openT A).1, 0) (ls.take k)).1.1 ∧ Own w' w.heap.size 35 1 r (uv (visitsT ((openT A).1, 0) (ls.take k)).2) ∧ Upd (fun k => k = b ∨ k = g) w w',
    fun _ _ i _ => (ls.length - i).toNat, ⟨0, rfl, Nat.zero_le _, rfl, a1, .nil .., u1.mono fun k _ hn e => hn (.inr e)⟩, ?_⟩
  rintro _ bb r i w2 ⟨k, rfl, hk, rfl, a2, o2, u2⟩
  have z2 := u2.size
  have ei : IntKind.i64.wrap ((k : Int) + 1) = ((k + 1 : Nat) : Int) := by rw [wrap_i64 (by omega) (by omega)]; omega
  rw [ei]
  refine ⟨fun hlt => ?_, fun hge => ?_⟩
  · obtain ⟨p, y, hp, hy, hc⟩ := (hs.upd0 u2 hb).word k (by omega)
    rw [Nat.mul_one] at hc
    have hyl := hl y (List.mem_of_getElem? hy)
    refine ⟨by omega, by omega, p, hp, _, by rw [Int.toNat_natCast]; exact hc, ⟨(rvisit_spec (s := (visitsT ((openT A).1, 0) (ls.take k)).1) a2 hyl).mono ?_⟩⟩
    rintro e w3 ⟨rfl, a3, u3⟩
    have z3 := u3.size
    have hoff : ∀ {v : World} {xs : List Value}, Own v w.heap.size 35 1 r xs → r.off fun k => k = b ∨ k = g := fun o q hq => by have := o.base q hq; rintro (e | e) <;> omega
    have o3 := o2.upd u3 (hoff o2)
    have hln := o3.len1
    rw [uv_length, visitsT_len, List.length_take] at hln
    refine ⟨_, _, rfl, ?_⟩
    have ew := visitT_wh (visitsT ((openT A).1, 0) (ls.take k)).1 y
    refine ⟨fun hw w4 n4 => ?_, fun hw w4 n4 => ?_⟩
    all_goals
      have z4 := n4.size
      obtain ⟨s', w5, hr5, hn5, o5, u5, c5⟩ := (o3.ext n4.ext).append (t := 38) (ty := 38) tab_ok (by rfl) (by rfl) (by decide) (x := ⟨some ⟨w3.heap.size, 0, none⟩, 1, 1⟩) (news := uv [(visitT (visitsT ((openT A).1, 0) (ls.take k)).1 y).2]) ((Blk.new n4).rd (z := 1) (o := 0) (n := 1) (c := 1) (by simp)) (uv_ones _) (by dsimp only; omega) (by dsimp only; omega) (by omega)
      have hS : ∀ k, (∃ p, r.a = some p ∧ k = p.block) → w.heap.size ≤ k := by rintro k ⟨q', hq', rfl⟩; exact (o2.base q' hq').1
      refine ⟨s', w5, hr5, ⟨k + 1, rfl, by omega, ?_, ?_, ?_, ((u2.trans u3 fun _ _ hn => ⟨hn, hn⟩).trans n4.ext fun _ _ hn => ⟨hn, not_false⟩).trans u5 fun i hi hn => ⟨hn, fun hx => by have := hS i hx; omega⟩⟩, by dsimp only; omega⟩
      · rw [take_snoc hy, visitsT_snoc]
        dsimp only
        rw [ew, hw]
        simp
      · rw [take_snoc hy, visitsT_snoc]
        exact (a3.ext n4.ext).upd u5 (fun hx => by have := hS _ hx; omega) (fun hx => by have := hS _ hx; omega)
      · rw [take_snoc hy, visitsT_snoc, uv_append]
        exact o5
  rw [List.take_of_length_le (by omega)] at a2 o2 ⊢
  have hn7 : (visitsT ((openT A).1, 0) ls).1.1.n = A.n := (visitsT_same ls ((openT A).1, 0)).n.trans (by unfold openT; rw [ho]; rfl)
  have hf7 : Fst (visitsT ((openT A).1, 0) ls).1 := visitsT_fst ls _ (.inl rfl)
  have ok7 := a2.ok
  refine ⟨(rafter_spec a2 (r := 0) (by decide)).mono ?_⟩
  rintro e w3 ⟨rfl, x3⟩
  generalize hV : visitsT ((openT A).1, 0) ls = V at *
  have eC : collectT A ls zero = ((closeT (scanAll (2 * A.n + 1) V.1 (afterT V.1.1 0)).1 zero).1, V.2, (scanAll (2 * A.n + 1) V.1 (afterT V.1.1 0)).2) := by unfold collectT; rw [hV]
  rw [eC]
  generalize hF : scanAll (2 * A.n + 1) V.1 (afterT V.1.1 0) = F at *
  have hFf : Fst F := by rw [← hF]; exact scanAll_fst _ _ _ hf7
  refine ⟨_, _, rfl, fun bb q p v => ∃ (m k : Nat) (s : St), q = m ∧ bb = wh s ∧ m < 18446744073709551616 ∧ ArW 71 v b g s.1 ∧ s.1.n = A.n ∧ scanAll k s (m, p) = F ∧ (p = true → 2 * A.n + 2 ≤ m + k ∧ m ≤ 2 * A.n) ∧
      Own v w.heap.size 35 1 r (uv V.2) ∧ Upd (fun k => k = b ∨ k = g) w v,
    fun _ q p _ => if p = true then (2 * A.n + 1 - q).toNat else 0,
    ⟨(afterT V.1.1 0).1, 2 * A.n + 1, V.1, rfl, rfl, ?_, a2.ext x3, hn7, hF, ?_, o2.ext x3, u2.trans x3 fun i _ hn => ⟨hn, not_false⟩⟩, ?_⟩
  · cases hp : (afterT V.1.1 0).2 with
    | false => have := afterT_none hp; omega
    | true =>
      have := afterT_in ok7 (r := 0) (r' := (afterT V.1.1 0).1) (by rw [← hp])
      omega
  · intro hp
    have := afterT_in ok7 (r := 0) (r' := (afterT V.1.1 0).1) (by rw [← hp])
    omega
  rintro _ bb q p v ⟨m, k, s, rfl, rfl, hm64, av, hsn, hsc, hpk, ov, Uv⟩
  have zv := Uv.size
  have hoff : ∀ {v : World} {xs : List Value}, Own v w.heap.size 35 1 r xs → r.off fun k => k = b ∨ k = g := fun o q hq => by have := o.base q hq; rintro (e | e) <;> omega
  refine ⟨fun hp => ?_, fun hp => ?_⟩
  · subst hp
    obtain ⟨hk1, hk2⟩ := hpk rfl
    obtain ⟨k', rfl⟩ : ∃ k', k = k' + 1 := ⟨k - 1, by omega⟩
    refine ⟨(rheader_spec av hm64).mono ?_⟩
    rintro e w4 ⟨he, x4⟩
    have okA := av.ok
    obtain ⟨H, hH⟩ : ∃ H, (headT s.1 m).getD hd0 = H := ⟨_, rfl⟩
    have hm' : MayT H ∨ H = hd0 := by
      rw [← hH]
      cases hh : headT s.1 m with
      | none => exact .inr rfl
      | some hd => exact .inl (headT_in okA hh).2.1
    have he' : e = .returned (.tuple #[hdV H, .bool (headT s.1 m).isSome]) := by rw [he, ← hH]
    subst he'
    refine ⟨_, _, _, _, _, rfl, fun w5 n5 => ⟨rfl, HB.can n5, fun w6 s6 => ?_⟩⟩
    obtain ⟨hb6, x46⟩ := HB.made (h := H) n5 s6
    have x06 := x4.trans x46
    have z4 := x4.size; have z46 := x46.size; have l6 := hb6.lt
    have hl1000 : 0 ≤ H.l ∧ H.l ≤ 1000 := by
      rcases hm' with hm' | rfl
      · exact ⟨hm'.2.2.1, hm'.le⟩
      · exact ⟨by decide, by decide⟩
    have eS : scanT s m = scanN H m H.l.toNat s := by unfold scanT; rw [hH]
    refine ⟨fun bb i w' => ∃ a : Nat, i = (a : Nat) ∧ a ≤ H.l.toNat ∧ bb = wh (scanN H m a s) ∧ ArW 71 w' b g (scanN H m a s).1 ∧ HB w' w4.heap.size H ∧ Upd (fun k => k = b ∨ k = g) v w', fun _ i _ => (H.l - i).toNat,
      ⟨0, rfl, Nat.zero_le _, rfl, av.ext x06, hb6, x06.toS⟩, ?_⟩
    rintro _ bb i w7 ⟨a, rfl, ha, rfl, a7, hb7, u7⟩
    have ea : IntKind.i64.wrap ((a : Int) + 1) = ((a + 1 : Nat) : Int) := by rw [wrap_i64 (by omega) (by omega)]; omega
    rw [ea]
    have okI := scanN_ok okA H m a
    refine ⟨_, hb7.cell 2, fun hal => ?_, fun hal => ?_⟩
    · have hM : MayT H := by
        rcases hm' with hm' | rfl
        · exact hm'
        · exact absurd hal (by show ¬ (a : Int) < 0; omega)
      refine ⟨_, _, _, _, rfl, ⟨hb7.cell 0, hb7.cell 1, hb7.cell 2, hb7.cell 3⟩, ⟨(refs_spec H (i := a) hM hal w7).mono ?_⟩⟩
      rintro e w8 ⟨rfl, x8⟩
      refine ⟨_, rfl, fun hf => ⟨(rCell_spec (a7.ext x8) hm64 (i := (a : Int)) (by omega)).mono ?_⟩, fun hf => ?_⟩
      · rintro e w9 ⟨rfl, x9⟩
        have hcl := cellO_lt okI m (a : Int)
        refine ⟨_, _, rfl, ⟨(rvisit_spec (s := scanN H m a s) ((a7.ext x8).ext x9) hcl).mono ?_⟩⟩
        rintro e w10 ⟨rfl, a10, u10⟩
        have e1 : scanN H m (a + 1) s = ((setO (visitT (scanN H m a s) (cellO (scanN H m a s).1 m a).1).1.1 m a (visitT (scanN H m a s) (cellO (scanN H m a s).1 m a).1).2).1, (visitT (scanN H m a s) (cellO (scanN H m a s).1 m a).1).1.2) := by conv => lhs; unfold scanN; rw [if_pos hf]
        have ew : wh (scanN H m (a + 1) s) = wh (visitT (scanN H m a s) (cellO (scanN H m a s).1 m a).1).1 := by rw [e1]; rfl
        refine ⟨_, _, rfl, ?_⟩
        have ew2 := visitT_wh (scanN H m a s) (cellO (scanN H m a s).1 m a).1
        refine ⟨fun hw => ⟨(rSetCell_spec a10 hm64 (i := (a : Int)) (by omega) (visitT_lt okI hcl)).mono ?_⟩, fun hw => ⟨(rSetCell_spec a10 hm64 (i := (a : Int)) (by omega) (visitT_lt okI hcl)).mono ?_⟩⟩
        all_goals
          rintro e w11 ⟨rfl, a11, u11⟩
          have z7 := u7.size; have z8 := x8.size; have z9 := x9.size
          have U10 := ((u7.trans (x8.trans x9) fun _ _ hn => ⟨hn, not_false⟩).trans u10 fun _ _ hn => ⟨hn, hn⟩)
          have hb10 := ((hb7.ext x8).ext x9).upd u10 (by omega)
          refine ⟨_, rfl, ⟨a + 1, rfl, by omega, ?_, by rw [e1]; exact a11, hb10.upd u11 (by omega), U10.trans u11 fun i _ hn => ⟨hn, fun e => hn (.inl e)⟩⟩, by dsimp only; omega⟩
          rw [ew, ew2, hw]
          simp
      · have e1 : scanN H m (a + 1) s = scanN H m a s := by conv => lhs; unfold scanN; rw [if_neg (by rw [hf]; decide)]
        exact ⟨⟨a + 1, rfl, by omega, by rw [e1], by rw [e1]; exact a7.ext x8, hb7.ext x8, u7.trans x8 fun _ _ hn => ⟨hn, not_false⟩⟩, by dsimp only; omega⟩
    · have ea' : a = H.l.toNat := by omega
      subst ea'
      rw [← eS] at a7 ⊢
      refine ⟨(rafter_spec a7 hm64).mono ?_⟩
      rintro e w8 ⟨rfl, x8⟩
      have ok9 := a7.ok
      have hsn9 : (scanT s m).1.n = A.n := (scanN_same s _ m _).n.trans hsn
      have hsc' : scanAll k' (scanT s m) ((afterT (scanT s m).1 m).1, (afterT (scanT s m).1 m).2) = F := by
        rw [← hsc]; rfl
      have hin : (afterT (scanT s m).1 m).2 = true → m < (afterT (scanT s m).1 m).1 ∧ (afterT (scanT s m).1 m).1 ≤ 2 * A.n := fun hp => by
        have := afterT_in ok9 (r := m) (r' := (afterT (scanT s m).1 m).1) (by rw [← hp])
        omega
      refine ⟨_, _, rfl, ⟨_, k', scanT s m, rfl, rfl, ?_, a7.ext x8, hsn9, hsc', fun hp => by have := hin hp; omega, (ov.upd u7 (hoff ov)).ext x8, (Uv.trans u7 fun _ _ hn => ⟨hn, hn⟩).trans x8 fun _ _ hn => ⟨hn, not_false⟩⟩, ?_⟩
      · cases hp : (afterT (scanT s m).1 m).2 with
        | false => have := afterT_none hp; omega
        | true => have := hin hp; omega
      · dsimp only
        rw [if_pos rfl]
        split
        · rename_i hp; have := hin hp; omega
        · omega
  · subst hp
    rw [scanAll_false] at hsc
    subst hsc
    refine ⟨(end_spec av zero).mono ?_⟩
    rintro e w4 ⟨rfl, a4, u4⟩
    have fin : ∀ z : Int, z = s.2 → Calls Try.prog 33 #[.pointer (some ⟨g, 0, none⟩)] w4 fun e w_1 => ∃ n, e = .returned (.int .i64 n) ∧ ∃ s', Ending.returned (.tuple #[.slice r.a r.n r.c, .int .i64 n, .int .i64 z]) = .returned (.tuple #[.slice s'.a s'.n s'.c, .int .i64 ((closeT s.1 zero).1.use.e - (closeT s.1 zero).1.use.f : Nat), .int .i64 s.2]) ∧ ArW 71 w_1 b g (closeT s.1 zero).1 ∧ Own w_1 w.heap.size 35 1 s' (uv V.2) ∧ Upd (fun k => k = b ∨ k = g) w w_1 := by
      intro z hz
      refine (rused_spec a4).mono ?_
      rintro e w5 ⟨rfl, q5⟩
      exact ⟨_, rfl, r, by rw [hz], a4.ext q5.ext, (ov.upd u4 (hoff ov)).ext q5.ext, (Uv.trans u4 fun _ _ hn => ⟨hn, hn⟩).trans q5.ext fun _ _ hn => ⟨hn, not_false⟩⟩
    refine ⟨_, rfl, fun hw => ⟨fin 21 ?_⟩, fun hw => ⟨fin 0 ?_⟩⟩
    · have := of_decide_eq_false hw
      rcases hFf with h | h
      · exact absurd h this
      · exact h.symm
    · exact (of_decide_eq_true hw).symm
end
end Go.Proofs.Ytggpomialmpgoaa.V
