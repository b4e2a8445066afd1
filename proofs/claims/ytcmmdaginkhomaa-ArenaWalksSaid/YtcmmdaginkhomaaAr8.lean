/-
  An arena opened; an object laid.
-/
import Derived.Test.YtcmmdaginkhomaaAr7
namespace Go.Proofs.Ytcmmdaginkhomaa.V
open Go Go.RowKit
set_option linter.unusedVariables false
set_option linter.unusedSimpArgs false
set_option maxRecDepth 100000

/-- words laid over others -/
def layL (l : List Nat) (at_ : Nat) (xs : List Nat) : List Nat := l.take at_ ++ xs ++ l.drop (at_ + xs.length)
theorem layL_len {l : List Nat} {a : Nat} {xs : List Nat} (h : a + xs.length ≤ l.length) : (layL l a xs).length = l.length := by
  unfold layL
  simp only [List.length_append, List.length_take, List.length_drop]
  omega
theorem layL_get {l : List Nat} {a : Nat} {xs : List Nat} (h : a + xs.length ≤ l.length) (j : Nat) : (layL l a xs)[j]? = if j < a then l[j]? else if j < a + xs.length then xs[j - a]? else l[j]? := by
  have ht : (l.take a).length = a := by rw [List.length_take]; omega
  unfold layL
  by_cases h1 : j < a
  · rw [if_pos h1, List.getElem?_append_left (by rw [List.length_append]; omega), List.getElem?_append_left (by omega), List.getElem?_take, if_pos h1]
  · rw [if_neg h1]
    by_cases h2 : j < a + xs.length
    · rw [if_pos h2, List.getElem?_append_left (by rw [List.length_append]; omega), List.getElem?_append_right (by omega), ht]
    · rw [if_neg h2, List.getElem?_append_right (by rw [List.length_append]; omega), List.length_append, ht, List.getElem?_drop]
      congr 1; omega
theorem layL_mem {l : List Nat} {a : Nat} {xs : List Nat} {y : Nat} (h : y ∈ layL l a xs) : y ∈ l ∨ y ∈ xs := by
  unfold layL at h
  simp only [List.mem_append] at h
  rcases h with (h | h) | h
  · exact .inl (List.mem_of_mem_take h)
  · exact .inr h
  · exact .inl (List.mem_of_mem_drop h)
def openT (A : Ar) : Ar × Int := if A.opn = true then (A, 1) else ({ A with opn := true, nxt := ⟨A.n - A.use.f, A.n - A.use.f⟩ }, 0)
theorem openT_ok {A : Ar} (h : A.Ok) : (openT A).1.Ok := by
  unfold openT
  split
  · exact h
  · exact ⟨h.n, h.len, h.lt, h.use, h.use1, fun _ => ⟨rfl, Nat.le_refl _, by dsimp only; omega⟩, fun h => (by cases h)⟩
theorem open_spec {w : World} {b g : Nat} {A : Ar} (h : ArW 92 w b g A) :
    Calls Try.prog 30 #[.pointer (some ⟨g, 0, none⟩)] w fun e w' => e = .returned (.int .i64 (openT A).2) ∧ ArW 92 w' b g (openT A).1 ∧ Upd (fun k => k = g) w w' := by
  refine vc_30 _ _ _ ?_
  have hi := h.ok.useIn
  have hn := h.ok.n
  have hne : g ≠ b := h.hd.ne h.ws (by decide)
  simp only [eq_self, false_or, or_false, true_and, and_true, decide_eq_true_eq, decide_eq_false_iff_not, gd_st, gd_sf, exists_eq_left', exists_eq_left, Option.some.injEq, Sl.eta, Nat.reduceLeDiff, Int.reduceLE, Int.reduceLT, Int.reduceEq, Int.reduceNe, Nat.reduceMul, Nat.reduceAdd, Nat.reduceSub, Int.toNat_natCast, beq_iff_eq, bne_iff_ne, beq_eq_false_iff_ne, bne_eq_false_iff_eq, pick_and, pick_or, Bool.and_eq_true, Bool.or_eq_true, Bool.and_eq_false_iff, Bool.or_eq_false_iff, ne_eq, not_false_eq_true, Bool.not_eq_true', Bool.not_eq_false', reduceCtorEq, Nat.le_refl, Nat.zero_mul, Nat.mul_one, Nat.zero_add, Int.reduceToNat, ones, one, add_mk, Decidable.not_not, cond_true, cond_false, true_implies, false_implies, implies_true, Bool.not_true, Bool.not_false]
  have hok := openT_ok h.ok
  unfold openT at hok ⊢
  refine ⟨A.opn, h.hd.cell 6, fun ho => ?_, fun ho => ?_⟩
  · rw [if_pos ho]; exact ⟨rfl, h, .refl _ _⟩
  · rw [if_neg (by rw [ho]; decide)] at hok ⊢
    refine ⟨_, h.hd.cell 0, _, h.hd.cell 2, ?_⟩
    rw [show IntKind.i64.wrap ((A.n : Int) - (A.use.f : Int)) = ((A.n - A.use.f : Nat) : Int) by rw [wrap_i64 (by omega) (by omega)]; omega]
    intro w1 q1
    have k1 := h.hd.ext q1.ext
    refine ⟨by simp [len', wr, splice, rep], k1.canSet 6 (by simp), fun w2 s2 => ?_⟩
    have k2 := s2.blk1 (i := 6) k1
    refine ⟨by simp [len', wr, splice, rep], k2.canSetN 4 2 (by simp), fun w3 s3 => ?_⟩
    have k3 := s3.blk (i := 4) k2
    simp only [setsL, List.set] at k3
    have u : Upd (fun k => k = g) w w3 := (q1.ext.upd s2.upd).trans s3.upd fun _ _ hh => ⟨hh, hh⟩
    exact ⟨rfl, ⟨hok, k3, h.ws.upd u (Ne.symm hne)⟩, u⟩
theorem begin_spec {w : World} {b g : Nat} {A : Ar} (h : ArW 76 w b g A) :
    Calls Try.prog 57 #[.pointer (some ⟨g, 0, none⟩)] w fun e w' => e = .returned (.int .i64 (openT A).2) ∧ ArW 76 w' b g (openT A).1 ∧ Upd (fun k => k = g) w w' := by
  refine vc_57 _ _ _ ?_
  have hi := h.ok.useIn
  have hn := h.ok.n
  have hne : g ≠ b := h.hd.ne h.ws (by decide)
  simp only [eq_self, false_or, or_false, true_and, and_true, decide_eq_true_eq, decide_eq_false_iff_not, gd_st, gd_sf, exists_eq_left', exists_eq_left, Option.some.injEq, Sl.eta, Nat.reduceLeDiff, Int.reduceLE, Int.reduceLT, Int.reduceEq, Int.reduceNe, Nat.reduceMul, Nat.reduceAdd, Nat.reduceSub, Int.toNat_natCast, beq_iff_eq, bne_iff_ne, beq_eq_false_iff_ne, bne_eq_false_iff_eq, pick_and, pick_or, Bool.and_eq_true, Bool.or_eq_true, Bool.and_eq_false_iff, Bool.or_eq_false_iff, ne_eq, not_false_eq_true, Bool.not_eq_true', Bool.not_eq_false', reduceCtorEq, Nat.le_refl, Nat.zero_mul, Nat.mul_one, Nat.zero_add, Int.reduceToNat, ones, one, add_mk, Decidable.not_not, cond_true, cond_false, true_implies, false_implies, implies_true, Bool.not_true, Bool.not_false]
  have hok := openT_ok h.ok
  unfold openT at hok ⊢
  refine ⟨A.opn, h.hd.cell 6, fun ho => ?_, fun ho => ?_⟩
  · rw [if_pos ho]; exact ⟨rfl, h, .refl _ _⟩
  · rw [if_neg (by rw [ho]; decide)] at hok ⊢
    refine ⟨h.hd.canSet 6 (by simp), fun w1 s1 => ?_⟩
    have k1 := s1.blk1 (i := 6) h.hd
    refine ⟨_, k1.cell 0, _, k1.cell 2, ?_⟩
    rw [show IntKind.i64.wrap ((A.n : Int) - (A.use.f : Int)) = ((A.n - A.use.f : Nat) : Int) by rw [wrap_i64 (by omega) (by omega)]; omega]
    intro w2 q2
    have k2 := k1.ext q2.ext
    refine ⟨by simp [len', wr, splice, rep], by simp [len', wr, splice, rep], k2.canSetN 4 2 (by simp), fun w3 s3 => ?_⟩
    have k3 := s3.blk (i := 4) k2
    simp only [setsL, List.set] at k3
    have u : Upd (fun k => k = g) w w3 := (s1.upd.trans (q2.ext) fun _ _ hh => ⟨hh, not_false⟩).trans s3.upd fun _ _ hh => ⟨hh, hh⟩
    exact ⟨rfl, ⟨hok, k3, h.ws.upd u (Ne.symm hne)⟩, u⟩
/-- an object laid -/
def makeT (A : Ar) (h : Hd) (cs : List Nat) : Ar × Nat × Int :=
  if mayT h = true ∧ (cs.length : Int) = h.l ∧ A.opn = false then
    if A.n - (A.use.e - A.use.f) < cs.length + 2 then (A, 0, 18)
    else ({ A with ws := layL A.ws A.use.e (packT h :: (cs ++ [18446744073709551615 - packT h])), use := ⟨A.use.f, A.use.e + cs.length + 2⟩ }, A.use.e + 1, 0)
  else (A, 0, 1)
theorem makeT_ok {A : Ar} (h : A.Ok) {hd : Hd} {cs : List Nat} (hc : ∀ x ∈ cs, x < 18446744073709551616) : (makeT A hd cs).1.Ok := by
  have h1 := h.use1; have h2 := h.useIn; have h3 := h.len
  unfold makeT
  split
  · rename_i hm
    have m : MayT hd := of_decide_eq_true hm.1
    have hp := pack_lt m
    split
    · exact h
    · refine ⟨h.n, ?_, fun x hx => ?_, h.use, ⟨by dsimp only; omega, by dsimp only; omega⟩, h.nxt, h.nxt0⟩
      · dsimp only; rw [layL_len (by simp; omega)]; exact h.len
      · rcases layL_mem hx with h4 | h4
        · exact h.lt x h4
        · simp only [List.mem_cons, List.mem_append, List.not_mem_nil, or_false] at h4
          rcases h4 with rfl | h4 | rfl
          · omega
          · exact hc x h4
          · omega
  · exact h
end Go.Proofs.Ytcmmdaginkhomaa.V
