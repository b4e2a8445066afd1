/-
  The document's stack: the state, what reads and what sets a cell of a frame.
-/
import Derived.Test.YtodbmiflnellcaaLw3
import Derived.Test.YtodbmiflnellcaaVcB
import Derived.Test.YtodbmiflnellcaaOwn2
namespace Go.Proofs.Ytodbmiflnellcaa.V
open Go Go.RowKit
set_option linter.unusedVariables false
set_option linter.unusedSimpArgs false

def rrow (t : Tr) : List Value := [.int .i64 (t.1.fn : Nat), .int .i64 (t.1.at_ : Nat), .slice t.2.1.a t.2.1.n t.2.1.c, .int .i64 (t.1.hi : Nat), .slice t.2.2.a t.2.2.n t.2.2.c]
def rflat : List Tr → List Value
  | [] => []
  | t :: T => rrow t ++ rflat T
theorem rflat_append (A B : List Tr) : rflat (A ++ B) = rflat A ++ rflat B := by
  induction A with
  | nil => rfl
  | cons t A ih => simp [rflat, ih]
theorem rflat_len (T : List Tr) : (rflat T).length = T.length * 5 := by
  induction T with
  | nil => rfl
  | cons t T ih => simp [rflat, rrow, ih]; omega
theorem rflat_get (A C : List Tr) (t : Tr) (j : Nat) (hj : j < 5) : (rflat (A ++ t :: C))[A.length * 5 + j]? = (rrow t)[j]? := by
  rw [rflat_append, List.getElem?_append_right (by rw [rflat_len]; omega), rflat_len, Nat.add_sub_cancel_left, rflat, List.getElem?_append_left (by simp [rrow]; omega)]
theorem rflat_set (A C : List Tr) (t t' : Tr) (j : Nat) (v : Value) (hj : j < 5) (h : rrow t' = (rrow t).set j v) : (rflat (A ++ t :: C)).set (A.length * 5 + j) v = rflat (A ++ t' :: C) := by
  rw [rflat_append, rflat_append, List.set_append_right _ _ (by rw [rflat_len]; omega), rflat_len, Nat.add_sub_cancel_left, rflat, rflat, List.set_append_left _ _ (by simp [rrow]; omega), h]
def sls : List Tr → List Sl
  | [] => []
  | t :: T => t.2.1 :: t.2.2 :: sls T
theorem sls_append (A B : List Tr) : sls (A ++ B) = sls A ++ sls B := by
  induction A with
  | nil => rfl
  | cons t A ih => simp [sls, ih]
theorem mem_sls {s : Sl} : ∀ {Q : List Tr}, s ∈ sls Q → ∃ t ∈ Q, s = t.2.1 ∨ s = t.2.2
  | [], h => by cases h
  | t :: Q, h => by
    simp only [sls, List.mem_cons] at h
    rcases h with rfl | rfl | h
    · exact ⟨t, List.mem_cons_self .., .inl rfl⟩
    · exact ⟨t, List.mem_cons_self .., .inr rfl⟩
    · obtain ⟨t', h1, h2⟩ := mem_sls h
      exact ⟨t', List.mem_cons_of_mem _ h1, h2⟩
theorem sls_mem {t : Tr} : ∀ {Q : List Tr}, t ∈ Q → t.2.1 ∈ sls Q ∧ t.2.2 ∈ sls Q
  | [], h => by cases h
  | x :: Q, h => by
    rcases List.mem_cons.1 h with rfl | h
    · simp [sls]
    · have := sls_mem h
      simp [sls, this.1, this.2]

/-- the document's stack in block g -/
structure RAt (w : World) (g words : Nat) (fs : Sl) (Q : List Tr) : Prop where
  hd : Blk w g 61 [.int .i64 (words : Nat), .slice fs.a fs.n fs.c]
  row : Own w 0 78 5 fs (rflat Q)
  ls : ∀ t ∈ Q, Own w 0 34 1 t.2.1 (uv t.1.ls)
  ops : ∀ t ∈ Q, Own w 0 34 1 t.2.2 (uv t.1.ops)
  ok : ∀ t ∈ Q, t.1.Ok
  ap : (sls Q).Pairwise Apart
  fit : used (Q.map (·.1)) ≤ words
  big : words ≤ 65536
/-- .. in blocks of G -/
structure RSt (w : World) (g : Nat) (G : Nat → Prop) (words : Nat) (fs : Sl) (Q : List Tr) : Prop where
  at_ : RAt w g words fs Q
  g1 : G g
  g2 : ∀ p, fs.a = some p → G p.block
  g3 : ∀ s ∈ sls Q, ∀ p, s.a = some p → G p.block
  lt : ∀ k, G k → k < w.heap.size
def Ref (w : World) (g : Nat) (G : Nat → Prop) (words : Nat) (L : List Fr) : Prop := ∃ fs Q, RSt w g G words fs Q ∧ Q.map (·.1) = L
section
variable {w w' w1 : World} {g words : Nat} {fs : Sl} {Q A C : List Tr} {t t' : Tr} {S G : Nat → Prop} {L : List Fr}
theorem RAt.upd (h : RAt w g words fs Q) (u : Upd S w w') (hg : ¬ S g) (hf : fs.off S) (hs : ∀ s ∈ sls Q, s.off S) : RAt w' g words fs Q :=
  ⟨h.hd.upd u hg, h.row.upd u hf, fun t ht => (h.ls t ht).upd u (hs _ (sls_mem ht).1), fun t ht => (h.ops t ht).upd u (hs _ (sls_mem ht).2), h.ok, h.ap, h.fit, h.big⟩
theorem RSt.upd (h : RSt w g G words fs Q) (u : Upd S w w') (hS : ∀ k, G k → ¬ S k) : RSt w' g G words fs Q :=
  ⟨h.at_.upd u (hS _ h.g1) (fun p hp => hS _ (h.g2 p hp)) (fun s hs p hp => hS _ (h.g3 s hs p hp)), h.g1, h.g2, h.g3, fun k hk => Nat.lt_of_lt_of_le (h.lt k hk) u.size⟩
theorem RSt.ext (h : RSt w g G words fs Q) (u : Ext w w') : RSt w' g G words fs Q := h.upd u fun _ _ => not_false
theorem Ref.upd (h : Ref w g G words L) (u : Upd S w w') (hS : ∀ k, G k → ¬ S k) : Ref w' g G words L := by
  obtain ⟨fs, Q, h, e⟩ := h
  exact ⟨fs, Q, h.upd u hS, e⟩
theorem Ref.ext (h : Ref w g G words L) (u : Ext w w') : Ref w' g G words L := h.upd u fun _ _ => not_false
theorem Ref.lt (h : Ref w g G words L) (k : Nat) (hk : G k) : k < w.heap.size := by
  obtain ⟨fs, Q, h, e⟩ := h
  exact h.lt k hk
theorem RAt.len (h : RAt w g words fs Q) : fs.n = Q.length := by
  have := h.row.len
  rw [rflat_len] at this
  omega
theorem RAt.small (h : RAt w g words fs Q) : Q.length ≤ 65536 := by
  have h1 := h.fit
  have h2 := h.big
  have h3 := StkAt.snoc_len (Q.map (·.1))
  rw [List.length_map] at h3
  omega
theorem RAt.mid (h : RAt w g words fs (A ++ t :: C)) : t ∈ (A ++ t :: C) := by simp
theorem RAt.base (h : RAt w g words fs (A ++ t :: C)) : ∃ r, fs.a = some ⟨r, 0, none⟩ ∧ ∀ j v, (rrow t)[j]? = some v → w.cell? ⟨r, A.length * 5 + j, none⟩ = some v := by
  have hl := h.len
  have hne : fs.a ≠ none := fun hn => by
    have := (h.row.none_ hn).1
    rw [this] at hl
    simp at hl
  obtain ⟨r, cs, hr, _⟩ := h.row.blk hne
  refine ⟨r, hr, fun j v hv => ?_⟩
  have hj : j < 5 := (List.getElem?_eq_some_iff.1 hv).1
  rw [List.length_append, List.length_cons] at hl
  obtain ⟨p, hp, hc⟩ := h.row.rd.2 (by omega)
  rw [hr] at hp; injection hp with hp; subst hp
  have := hc (A.length * 5 + j) v (by rw [rflat_get A C t j hj]; exact hv)
  rw [add_mk, Nat.zero_add] at this
  exact this
theorem RAt.core (h : RAt w g words fs (A ++ t :: C)) (u : Upd S w w1) (hg : ¬ S g) (row : Own w1 0 78 5 fs (rflat (A ++ t' :: C))) (hA : ∀ s ∈ sls A, s.off S) (hC : ∀ s ∈ sls C, s.off S)
    (o1 : Own w1 0 34 1 t'.2.1 (uv t'.1.ls)) (o2 : Own w1 0 34 1 t'.2.2 (uv t'.1.ops)) (hok : t'.1.Ok) (hap : (sls (A ++ t' :: C)).Pairwise Apart) (hz : t'.1.size = t.1.size) :
    RAt w1 g words fs (A ++ t' :: C) := by
  refine ⟨h.hd.upd u hg, row, fun x hx => ?_, fun x hx => ?_, fun x hx => ?_, hap, ?_, h.big⟩
  · rcases List.mem_append.1 hx with hx | hx
    · exact (h.ls x (List.mem_append_left _ hx)).upd u (hA _ (sls_mem hx).1)
    · rcases List.mem_cons.1 hx with rfl | hx
      · exact o1
      · exact (h.ls x (List.mem_append_right _ (List.mem_cons_of_mem _ hx))).upd u (hC _ (sls_mem hx).1)
  · rcases List.mem_append.1 hx with hx | hx
    · exact (h.ops x (List.mem_append_left _ hx)).upd u (hA _ (sls_mem hx).2)
    · rcases List.mem_cons.1 hx with rfl | hx
      · exact o2
      · exact (h.ops x (List.mem_append_right _ (List.mem_cons_of_mem _ hx))).upd u (hC _ (sls_mem hx).2)
  · rcases List.mem_append.1 hx with hx | hx
    · exact h.ok x (List.mem_append_left _ hx)
    · rcases List.mem_cons.1 hx with rfl | hx
      · exact hok
      · exact h.ok x (List.mem_append_right _ (List.mem_cons_of_mem _ hx))
  · have := h.fit
    simp only [List.map_append, List.map_cons, used_append, used] at this ⊢
    omega
theorem RAt.any (h : RAt w g words fs Q) {s : Sl} (hs : s ∈ sls Q) : ∃ xs, Own w 0 34 1 s xs := by
  obtain ⟨t, ht, rfl | rfl⟩ := mem_sls hs
  · exact ⟨_, h.ls t ht⟩
  · exact ⟨_, h.ops t ht⟩
theorem RAt.sub1 {s : Sl} (hs : s ∈ sls A) : s ∈ sls (A ++ t :: C) := by rw [sls_append]; exact List.mem_append_left _ hs
theorem RAt.sub2 {s : Sl} (hs : s ∈ sls C) : s ∈ sls (A ++ t :: C) := by rw [sls_append, sls]; simp [hs]
/-- a cell of a frame is set, behind what has turned the frame's own rows -/
theorem RAt.setF (h : RAt w g words fs (A ++ t :: C)) {w2 : World} (u0 : Upd S w w2) (hg0 : ¬ S g) (hf0 : fs.off S) (hA : ∀ s ∈ sls A, s.off S) (hC : ∀ s ∈ sls C, s.off S)
    {r j : Nat} {v : Value} (hr : fs.a = some ⟨r, 0, none⟩) (hs : SetW w2 ⟨r, A.length * 5 + j, none⟩ [v] w1) (hj : j < 5) (hv : rrow t' = (rrow t).set j v)
    (o1 : Own w2 0 34 1 t'.2.1 (uv t'.1.ls)) (o2 : Own w2 0 34 1 t'.2.2 (uv t'.1.ops)) (hok : t'.1.Ok) (hap : (sls (A ++ t' :: C)).Pairwise Apart) (hz : t'.1.size = t.1.size) :
    RAt w1 g words fs (A ++ t' :: C) ∧ Upd (fun k => S k ∨ k = r) w w1 := by
  have hl := h.len
  rw [List.length_append, List.length_cons] at hl
  have row2 := h.row.upd u0 hf0
  obtain ⟨o, u⟩ := row2.setAt hr (i := A.length * 5 + j) (v := v) (by omega) (by rw [add_mk, Nat.zero_add]; exact hs)
  have u : Upd (fun k => k = r) w2 w1 := u
  have ut : Upd (fun k => S k ∨ k = r) w w1 := u0.trans u fun i _ hi => ⟨fun h => hi (.inl h), fun h => hi (.inr h)⟩
  have ne1 : ∀ {w : World} {s : Sl} {xs ys : List Value}, Own w 0 78 5 fs ys → Own w 0 34 1 s xs → s.off (fun k => k = r) := fun h1 ho p hp he =>
    own_ne h1 ho (by decide) _ _ hr hp he.symm
  have offs : ∀ s ∈ sls (A ++ t :: C), s.off S → s.off (fun k => S k ∨ k = r) := fun s hs ho p hp hk => by
    obtain ⟨xs, hx⟩ := h.any hs
    rcases hk with hk | hk
    · exact ho p hp hk
    · exact ne1 h.row hx p hp hk
  rw [rflat_set A C t t' j v hj hv] at o
  refine ⟨h.core ut (fun hk => ?_) o (fun s hs => offs s (RAt.sub1 hs) (hA s hs)) (fun s hs => offs s (RAt.sub2 hs) (hC s hs)) (o1.upd u (ne1 row2 o1)) (o2.upd u (ne1 row2 o2)) hok hap hz, ut⟩
  rcases hk with hk | hk
  · exact hg0 hk
  · exact own_blk_ne h.row h.hd (by decide) _ hr hk.symm
/-- .. a frame's own rows have turned, not where they stand -/
theorem RAt.turn (h : RAt w g words fs (A ++ t :: C)) (u0 : Upd S w w1) (hg0 : ¬ S g) (hf0 : fs.off S) (hA : ∀ s ∈ sls A, s.off S) (hC : ∀ s ∈ sls C, s.off S) (hv : rrow t' = rrow t)
    (o1 : Own w1 0 34 1 t'.2.1 (uv t'.1.ls)) (o2 : Own w1 0 34 1 t'.2.2 (uv t'.1.ops)) (hok : t'.1.Ok) (hap : (sls (A ++ t' :: C)).Pairwise Apart) (hz : t'.1.size = t.1.size) :
    RAt w1 g words fs (A ++ t' :: C) := by
  refine h.core u0 hg0 ?_ hA hC o1 o2 hok hap hz
  have := h.row.upd u0 hf0
  rw [rflat_append, rflat] at this ⊢
  rw [hv]
  exact this
end
end Go.Proofs.Ytodbmiflnellcaa.V
