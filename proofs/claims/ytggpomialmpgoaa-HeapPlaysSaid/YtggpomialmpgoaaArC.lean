/-
  Close.
  Close.
  The document's End.
  The objects of a space, one behind the other.
-/
import Derived.Test.YtggpomialmpgoaaArA
import Derived.Test.YtggpomialmpgoaaClr
namespace Go.Proofs.Ytggpomialmpgoaa.V
open Go Go.RowKit
set_option linter.unusedVariables false
set_option linter.unusedSimpArgs false
set_option maxRecDepth 100000

def closeT (A : Ar) (zero : Bool) : Ar × Int :=
  if A.opn = false then (A, 1)
  else ({ A with ws := if zero = true then layL A.ws A.use.f (List.replicate A.n 0) else A.ws, use := A.nxt, nxt := ⟨0, 0⟩, opn := false }, 0)
theorem closeT_ok {A : Ar} (h : A.Ok) (zero : Bool) : (closeT A zero).1.Ok := by
  have h1 := h.use1; have h2 := h.useIn; have h3 := h.len; have h4 := h.use
  unfold closeT
  split
  · exact h
  · rename_i ho
    have hx := h.nxt (by simpa using ho)
    refine ⟨h.n, ?_, fun x hx' => ?_, by dsimp only; omega, ⟨hx.2.1, hx.2.2⟩, fun hf => (by cases hf), fun _ => rfl⟩
    · dsimp only; split
      · rw [layL_len (by rw [List.length_replicate]; omega)]; exact h.len
      · exact h.len
    · dsimp only at hx'
      split at hx'
      · rcases layL_mem hx' with h5 | h5
        · exact h.lt x h5
        · rw [List.eq_of_mem_replicate h5]; decide
      · exact h.lt x hx'
theorem setsL_rep : ∀ (vs cs : List Value) (o : Nat), o + vs.length ≤ cs.length → setsL cs o vs = cs.take o ++ vs ++ cs.drop (o + vs.length)
  | [], cs, o, h => by simp [setsL]
  | v :: r, cs, o, h => by
    rw [List.length_cons] at h
    rw [setsL, setsL_rep r _ _ (by rw [List.length_set]; omega)]
    rw [List.take_set, List.drop_set_of_lt (by omega), List.length_cons, show o + 1 + r.length = o + (r.length + 1) by omega]
    congr 1
    have ht : (cs.take o).length = o := by rw [List.length_take]; omega
    have e : (cs.take (o + 1)).set o v = cs.take o ++ [v] := by
      apply List.ext_getElem?
      intro j
      rw [List.getElem?_set]
      by_cases h1 : o = j
      · subst h1
        rw [if_pos rfl, if_pos (by rw [List.length_take]; omega), List.getElem?_append_right (by omega), ht, Nat.sub_self]; rfl
      · rw [if_neg h1, List.getElem?_take]
        by_cases h2 : j < o
        · rw [if_pos (by omega), List.getElem?_append_left (by omega), List.getElem?_take, if_pos h2]
        · rw [if_neg (by omega), List.getElem?_eq_none (by rw [List.length_append, ht]; simp; omega)]
    rw [e, List.append_assoc]; rfl
end Go.Proofs.Ytggpomialmpgoaa.V
namespace Go.Proofs.Ytggpomialmpgoaa.V
open Go Go.RowKit
set_option linter.unusedVariables false
set_option linter.unusedSimpArgs false
set_option maxRecDepth 100000

theorem run_clear0 {P : Program} {τ : Tab} (hτ : τ.Ok P) {t ty e by_ : Nat} {z : Value} (ht : lk τ.und t = some (.slice e)) (hs : lk τ.siz e = some (1, by_, [z])) {w : World} {p : Addr} {c : Nat} :
    Runs P (Builtin.clear_ #[t] ty #[.slice (some p) 0 c]) w (.tuple #[]) w := by
  obtain ⟨i, hi, hi1, hi2, hi3, zv, hz1, hz2⟩ := hτ.siz _ _ _ _ hs
  have hu := hτ.slice ht
  unfold Runs
  simp [Builtin.clear_, run_underlying hu, zeroValue, typeInfo, hi, hz1]
theorem close_spec {w : World} {b g : Nat} {A : Ar} (h : ArW 91 w b g A) (zero : Bool) :
    Calls Try.prog 56 #[.pointer (some ⟨g, 0, none⟩), .bool zero] w fun e w' => e = .returned (.int .i64 (closeT A zero).2) ∧ ArW 91 w' b g (closeT A zero).1 ∧ Upd (fun k => k = b ∨ k = g) w w' := by
  refine vc_56 _ _ _ _ ?_
  have hi := h.ok.useIn; have h1 := h.ok.use1
  have hn := h.ok.n; have hlen := h.ok.len
  have hne : g ≠ b := h.hd.ne h.ws (by decide)
  have hok := closeT_ok h.ok zero
  simp only [eq_self, false_or, or_false, true_and, and_true, decide_eq_true_eq, decide_eq_false_iff_not, gd_st, gd_sf, exists_eq_left', exists_eq_left, Option.some.injEq, Sl.eta, Nat.reduceLeDiff, Int.reduceLE, Int.reduceLT, Int.reduceEq, Int.reduceNe, Nat.reduceMul, Nat.reduceAdd, Nat.reduceSub, Int.toNat_natCast, beq_iff_eq, bne_iff_ne, beq_eq_false_iff_ne, bne_eq_false_iff_eq, pick_and, pick_or, Bool.and_eq_true, Bool.or_eq_true, Bool.and_eq_false_iff, Bool.or_eq_false_iff, ne_eq, not_false_eq_true, Bool.not_eq_true', Bool.not_eq_false', reduceCtorEq, Nat.le_refl, Nat.zero_mul, Nat.mul_one, Nat.zero_add, Int.reduceToNat, ones, one, add_mk, Decidable.not_not, cond_true, cond_false, true_implies, false_implies, implies_true, Bool.not_true, Bool.not_false]
  unfold closeT at hok ⊢
  refine ⟨A.opn, h.hd.cell 6, fun ho => ?_, fun ho => ?_⟩
  · rw [if_pos ho]; exact ⟨rfl, h, .refl _ _⟩
  rw [if_neg (by rw [ho]; decide)] at hok ⊢
  obtain ⟨W, hW⟩ : ∃ W, (if zero = true then layL A.ws A.use.f (List.replicate A.n 0) else A.ws) = W := ⟨_, rfl⟩
  have hWl : W.length = A.ws.length := by
    rw [← hW]; split
    · exact layL_len (by rw [List.length_replicate]; omega)
    · rfl
  rw [hW] at hok ⊢
  refine ⟨fun w' => Blk w' g 91 [.int .i64 (A.n : Nat), .slice (some ⟨b, 0, none⟩) A.ws.length A.ws.length, .int .i64 (A.use.f : Nat), .int .i64 (A.use.e : Nat), .int .i64 (A.nxt.f : Nat), .int .i64 (A.nxt.e : Nat), .bool A.opn] ∧ Blk w' b 35 (uv W) ∧ Upd (fun k => k = b ∨ k = g) w w', ⟨fun hz w1 q1 => ?_, fun hz => ?_⟩, ?_⟩
  · have a1 := h.ext q1.ext
    refine ⟨fun _ => False, ⟨some ⟨b, 0, none⟩, A.ws.length, A.ws.length⟩, fun w' u => (a1.ext u).hd.cell 1, _, fun w' u => (a1.ext u).hd.cell 2, _, fun w' u => (a1.ext u).hd.cell 2, _, fun w' u => (a1.ext u).hd.cell 0, ?_⟩
    rw [wrap_i64 (n := (A.use.f : Int) + (A.n : Int)) (by omega) (by omega), show (A.use.f : Int) + (A.n : Int) = ((A.use.f + A.n : Nat) : Int) by omega]
    refine ⟨by omega, by omega, by dsimp only; omega, ?_⟩
    simp only [Int.toNat_natCast]
    rw [show A.use.f + A.n - A.use.f = A.n by omega]
    have hW' : W = layL A.ws A.use.f (List.replicate A.n 0) := by rw [← hW, if_pos hz]
    by_cases h0 : A.n = 0
    · have hws : A.ws = [] := List.eq_nil_of_length_eq_zero (by omega)
      have hWn : W = A.ws := by rw [hws]; exact List.eq_nil_of_length_eq_zero (by rw [hWl, hws]; rfl)
      by_cases hc : A.ws.length = A.use.f
      · rw [if_pos hc]
        exact ⟨.tuple #[], w1, by rw [h0]; exact run_clear0 (z := .int .u64 0) tab_ok (by rfl) (by rfl), a1.hd, by rw [hWn]; exact a1.ws, q1.ext.toS⟩
      · rw [if_neg hc]
        exact ⟨.tuple #[], w1, by rw [h0]; exact run_clear0 (z := .int .u64 0) tab_ok (by rfl) (by rfl), a1.hd, by rw [hWn]; exact a1.ws, q1.ext.toS⟩
    · rw [if_neg (show ¬ A.ws.length = A.use.f by omega)]
      simp only [Option.map_some, add_mk, Nat.zero_add]
      obtain ⟨w2, hr2, b2, u2, z2⟩ := run_clear (P := Try.prog) (z := .int .u64 0) (t := 38) (ty := 0) (n := A.n) (o := A.use.f) (c := A.ws.length - A.use.f) tab_ok (by rfl) (by rfl) trivial a1.ws (by rw [uv_length]; omega) (by omega)
      rw [setsL_rep _ _ _ (by rw [uv_length, List.length_replicate]; omega), List.length_replicate] at b2
      refine ⟨_, w2, hr2, a1.hd.upd u2 hne, ?_, q1.ext.upd (u2.mono fun k _ hn e => hn (.inl e))⟩
      rw [hW']
      unfold layL
      rw [List.length_replicate]
      simp only [uv, List.map_append, List.map_take, List.map_drop, List.map_replicate] at b2 ⊢
      exact b2
  · have hW' : W = A.ws := by rw [← hW, if_neg (by rw [hz]; decide)]
    exact ⟨h.hd, by rw [hW']; exact h.ws, .refl _ _⟩
  · rintro _ w1 ⟨k1, b1, u1⟩
    refine ⟨_, _, rfl, ⟨k1.cell 4, k1.cell 5⟩, rfl, k1.canSetN 2 2 (by simp), fun w2 s2 => ?_⟩
    have k2 := s2.blk (i := 2) k1
    simp only [setsL, List.set] at k2
    refine ⟨k2.canSetN 4 2 (by simp), fun w3 s3 => ?_⟩
    have k3 := s3.blk (i := 4) k2
    simp only [setsL, List.set] at k3
    refine ⟨k3.canSet 6 (by simp), fun w4 s4 => ?_⟩
    have k4 := s4.blk1 (i := 6) k3
    have b4 := ((b1.upd s2.upd (Ne.symm hne)).upd s3.upd (Ne.symm hne)).upd s4.upd (Ne.symm hne)
    refine ⟨rfl, ⟨hok, ?_, b4⟩, ((u1.one' s2.upd (.inr rfl)).one' s3.upd (.inr rfl)).one' s4.upd (.inr rfl)⟩
    dsimp only
    rw [hWl]
    exact k4
end Go.Proofs.Ytggpomialmpgoaa.V
namespace Go.Proofs.Ytggpomialmpgoaa.V
open Go Go.RowKit
set_option linter.unusedVariables false
set_option linter.unusedSimpArgs false
set_option maxRecDepth 100000

theorem end_spec {w : World} {b g : Nat} {A : Ar} (h : ArW 71 w b g A) (zero : Bool) :
    Calls Try.prog 70 #[.pointer (some ⟨g, 0, none⟩), .bool zero] w fun e w' => e = .returned (.int .i64 (closeT A zero).2) ∧ ArW 71 w' b g (closeT A zero).1 ∧ Upd (fun k => k = b ∨ k = g) w w' := by
  refine vc_70 _ _ _ _ ?_
  have hi := h.ok.useIn; have h1 := h.ok.use1
  have hn := h.ok.n; have hlen := h.ok.len
  have hne : g ≠ b := h.hd.ne h.ws (by decide)
  have hok := closeT_ok h.ok zero
  simp only [eq_self, false_or, or_false, true_and, and_true, decide_eq_true_eq, decide_eq_false_iff_not, gd_st, gd_sf, exists_eq_left', exists_eq_left, Option.some.injEq, Sl.eta, Nat.reduceLeDiff, Int.reduceLE, Int.reduceLT, Int.reduceEq, Int.reduceNe, Nat.reduceMul, Nat.reduceAdd, Nat.reduceSub, Int.toNat_natCast, beq_iff_eq, bne_iff_ne, beq_eq_false_iff_ne, bne_eq_false_iff_eq, pick_and, pick_or, Bool.and_eq_true, Bool.or_eq_true, Bool.and_eq_false_iff, Bool.or_eq_false_iff, ne_eq, not_false_eq_true, Bool.not_eq_true', Bool.not_eq_false', reduceCtorEq, Nat.le_refl, Nat.zero_mul, Nat.mul_one, Nat.zero_add, Int.reduceToNat, ones, one, add_mk, Decidable.not_not, cond_true, cond_false, true_implies, false_implies, implies_true, Bool.not_true, Bool.not_false]
  unfold closeT at hok ⊢
  refine ⟨A.opn, h.hd.cell 6, fun ho => ?_, fun ho => ?_⟩
  · rw [if_pos ho]; exact ⟨rfl, h, .refl _ _⟩
  rw [if_neg (by rw [ho]; decide)] at hok ⊢
  obtain ⟨W, hW⟩ : ∃ W, (if zero = true then layL A.ws A.use.f (List.replicate A.n 0) else A.ws) = W := ⟨_, rfl⟩
  have hWl : W.length = A.ws.length := by
    rw [← hW]; split
    · exact layL_len (by rw [List.length_replicate]; omega)
    · rfl
  rw [hW] at hok ⊢
  refine ⟨fun w' => Blk w' g 71 [.int .i64 (A.n : Nat), .slice (some ⟨b, 0, none⟩) A.ws.length A.ws.length, .int .i64 (A.use.f : Nat), .int .i64 (A.use.e : Nat), .int .i64 (A.nxt.f : Nat), .int .i64 (A.nxt.e : Nat), .bool A.opn] ∧ Blk w' b 35 (uv W) ∧ Upd (fun k => k = b ∨ k = g) w w', ?_, ?_⟩
  · refine ⟨fun n w' => 0 ≤ n ∧ n ≤ A.n ∧ (zero = false → n = 0) ∧ ArW 71 w' b g (A.lay A.use.f (List.replicate n.toNat 0)) ∧ Upd (fun k => k = b ∨ k = g) w w', fun n _ => (A.n - n).toNat, ⟨by omega, by omega, fun _ => rfl, ?_, .refl _ _⟩, ?_⟩
    · show ArW _ w b g (A.lay A.use.f [])
      unfold Ar.lay
      rw [layL_nil]
      exact h
    rintro _ n w1 ⟨m0, m1, mz, a1, u1⟩
    obtain ⟨n, rfl⟩ : ∃ k : Nat, n = k := ⟨n.toNat, by omega⟩
    rw [Int.toNat_natCast] at a1
    have hl1 : (A.lay A.use.f (List.replicate n 0)).ws.length = A.ws.length := layL_len (by rw [List.length_replicate]; omega)
    have hd1 : Blk w1 g 71 [.int .i64 (A.n : Nat), .slice (some ⟨b, 0, none⟩) A.ws.length A.ws.length, .int .i64 (A.use.f : Nat), .int .i64 (A.use.e : Nat), .int .i64 (A.nxt.f : Nat), .int .i64 (A.nxt.e : Nat), .bool A.opn] := by
      rw [← hl1]; exact a1.hd
    have stop : n = A.n ∨ zero = false → Blk w1 b 35 (uv W) := by
      intro hh
      have hws := a1.ws
      have : (A.lay A.use.f (List.replicate n 0)).ws = W := by
        rw [← hW]
        unfold Ar.lay
        cases hz : zero with
        | true =>
          rcases hh with hh | hh
          · rw [if_pos rfl, hh]
          · rw [hh] at hz; cases hz
        | false =>
          have : n = 0 := by have := mz hz; omega
          rw [if_neg (by decide), this]
          exact layL_nil _ _
      rw [this] at hws
      exact hws
    refine ⟨_, hd1.cell 0, fun hlt => ⟨fun hz w2 q2 => ?_, fun hz => ⟨hd1, stop (.inr hz), u1⟩⟩, fun hge => ⟨hd1, stop (.inl (by omega)), u1⟩⟩
    have a2 := a1.ext q2.ext
    have hd2 := hd1.ext q2.ext
    refine ⟨fun _ => False, ⟨some ⟨b, 0, none⟩, A.ws.length, A.ws.length⟩, fun w' u => (hd2.ext u).cell 1, _, fun w' u => (hd2.ext u).cell 2, ?_⟩
    rw [wrap_i64 (n := (A.use.f : Int) + (n : Int)) (by omega) (by omega), show (A.use.f : Int) + (n : Int) = ((A.use.f + n : Nat) : Int) by omega, Int.toNat_natCast]
    refine ⟨by omega, by dsimp only; omega, _, rfl, a2.can (by omega), fun w3 s3 => ?_⟩
    obtain ⟨a3, u3⟩ := a2.put (x := 0) (by decide) (by decide) s3
    refine ⟨⟨by (first | (rw [wrap_i64 (by omega) (by omega)]; omega) | (dsimp only; rw [wrap_i64 (by omega) (by omega)]; omega) | (dsimp only; omega)), by (first | (rw [wrap_i64 (by omega) (by omega)]; omega) | (dsimp only; rw [wrap_i64 (by omega) (by omega)]; omega) | (dsimp only; omega)), fun hf => (by rw [hz] at hf; cases hf), ?_, (u1.still' q2.ext).one' u3 (.inl rfl)⟩, by (first | (rw [wrap_i64 (by omega) (by omega)]; omega) | (dsimp only; rw [wrap_i64 (by omega) (by omega)]; omega) | (dsimp only; omega))⟩
    rw [wrap_i64 (by omega) (by omega), show ((n : Int) + 1).toNat = n + 1 by omega]
    have e : (A.lay A.use.f (List.replicate n 0)).put (A.use.f + n) 0 = A.lay A.use.f (List.replicate (n + 1) 0) := by
      unfold Ar.lay Ar.put
      dsimp only
      have := layL_snoc (l := A.ws) (xs := List.replicate n 0) (a := A.use.f) (x := 0) (by rw [List.length_replicate]; omega)
      rw [List.length_replicate] at this
      rw [this, List.replicate_succ']
    rw [← e]
    exact a3
  · rintro _ w1 ⟨k1, b1, u1⟩
    refine ⟨_, _, rfl, ⟨k1.cell 4, k1.cell 5⟩, rfl, k1.canSetN 2 2 (by simp), fun w2 s2 => ?_⟩
    have k2 := s2.blk (i := 2) k1
    simp only [setsL, List.set] at k2
    refine ⟨k2.canSetN 4 2 (by simp), fun w3 s3 => ?_⟩
    have k3 := s3.blk (i := 4) k2
    simp only [setsL, List.set] at k3
    refine ⟨k3.canSet 6 (by simp), fun w4 s4 => ?_⟩
    have k4 := s4.blk1 (i := 6) k3
    have b4 := ((b1.upd s2.upd (Ne.symm hne)).upd s3.upd (Ne.symm hne)).upd s4.upd (Ne.symm hne)
    refine ⟨rfl, ⟨hok, ?_, b4⟩, ((u1.one' s2.upd (.inr rfl)).one' s3.upd (.inr rfl)).one' s4.upd (.inr rfl)⟩
    dsimp only
    rw [hWl]
    exact k4
end Go.Proofs.Ytggpomialmpgoaa.V
namespace Go.Proofs.Ytggpomialmpgoaa.V
open Go Go.RowKit
set_option linter.unusedVariables false
set_option linter.unusedSimpArgs false
set_option maxRecDepth 100000

/-- objects that stand one behind the other, from a word up to a word -/
inductive Path (A : Ar) (a : Nat) : List (Nat × Hd) → Nat → Prop
  | nil : Path A a [] a
  | snoc {l : List (Nat × Hd)} {b : Nat} {h : Hd} : Path A a l b → stT A A.use (b + 1) = some h → Path A a (l ++ [(b + 1, h)]) (b + h.l.toNat + 2)
theorem Path.le {A : Ar} {a : Nat} {l : List (Nat × Hd)} {b : Nat} (h : Path A a l b) : a ≤ b := by
  induction h with
  | nil => exact Nat.le_refl _
  | snoc _ _ ih => omega
theorem Path.end_le {A : Ar} {a : Nat} {l : List (Nat × Hd)} {b : Nat} (h : Path A a l b) (ha : a ≤ A.use.e) : b ≤ A.use.e := by
  cases h with
  | nil => exact ha
  | snoc _ hs => have := stT_in hs; omega
theorem Path.more {A : Ar} {a : Nat} : ∀ (n : Nat) {l : List (Nat × Hd)} {b : Nat}, A.use.e - b ≤ n → Path A a l b → ∃ l' e, Path A a l' e ∧ stT A A.use (e + 1) = none
  | n, l, b, hn, h => by
    cases hs : stT A A.use (b + 1) with
    | none => exact ⟨l, b, h, hs⟩
    | some hd =>
      have := stT_in hs
      cases n with
      | zero => omega
      | succ n => exact Path.more n (by omega) (h.snoc hs)
/-- all objects of the space in use, and the word at which they end -/
theorem Path.full (A : Ar) (a : Nat) : ∃ l e, Path A a l e ∧ stT A A.use (e + 1) = none := Path.more _ (Nat.le_refl _) .nil
theorem Path.head {A : Ar} {a : Nat} {l : List (Nat × Hd)} {e : Nat} (h : Path A a l e) : (l = [] ∧ e = a) ∨ ∃ hd m, stT A A.use (a + 1) = some hd ∧ l = (a + 1, hd) :: m ∧ Path A (a + hd.l.toNat + 2) m e := by
  induction h with
  | nil => exact .inl ⟨rfl, rfl⟩
  | snoc h1 hs ih =>
    rcases ih with ⟨rfl, rfl⟩ | ⟨hd, m, h2, rfl, h4⟩
    · exact .inr ⟨_, [], hs, rfl, .nil⟩
    · exact .inr ⟨hd, _, h2, rfl, h4.snoc hs⟩
theorem Path.rest {A : Ar} {a : Nat} {l l' : List (Nat × Hd)} {b e : Nat} (h : Path A a l b) (h' : Path A a l' e) (he : stT A A.use (e + 1) = none) : ∃ m, l' = l ++ m ∧ Path A b m e := by
  induction h with
  | nil => exact ⟨l', rfl, h'⟩
  | snoc h1 hs ih =>
    obtain ⟨m, rfl, hm⟩ := ih
    rcases hm.head with ⟨rfl, rfl⟩ | ⟨hd, m', h2, rfl, h4⟩
    · rw [he] at hs; cases hs
    · rw [h2] at hs
      injection hs with hs
      subst hs
      exact ⟨m', by simp, h4⟩
theorem Path.uniq {A : Ar} {a : Nat} {l l' : List (Nat × Hd)} {b e : Nat} (h : Path A a l b) (hb : stT A A.use (b + 1) = none) (h' : Path A a l' e) (he : stT A A.use (e + 1) = none) : l = l' ∧ b = e := by
  obtain ⟨m, rfl, hm⟩ := h.rest h' he
  rcases hm.head with ⟨rfl, rfl⟩ | ⟨hd, m', h2, _⟩
  · simp
  · rw [h2] at hb; cases hb
end Go.Proofs.Ytggpomialmpgoaa.V
