/-
  Things that are held; Collect of what was laid.
-/
import Derived.Test.YtgbpglfieellpaaCw4
namespace Go.Proofs.Ytgbpglfieellpaa.V
open Go Go.RowKit
set_option linter.unusedVariables false
set_option linter.unusedSimpArgs false
set_option maxRecDepth 100000

abbrev Tri := Th × Sl × Sl
abbrev tv (x : Tri) : List Value := thL x.1 x.2.1 x.2.2
def thsV (l : List Tri) : List Value := l.flatMap tv
theorem thsV_append (l m : List Tri) : thsV (l ++ m) = thsV l ++ thsV m := List.flatMap_append
theorem thsV_length (l : List Tri) : (thsV l).length = l.length * 4 := by
  induction l with
  | nil => rfl
  | cons o l ih => show (tv o ++ thsV l).length = _; rw [List.length_append, ih]; show 4 + l.length * 4 = (l.length + 1) * 4; omega
theorem thsV_at (l : List Tri) : ∀ (j : Nat) (o : Tri), l[j]? = some o → ∀ i : Nat, i < 4 → (thsV l)[j * 4 + i]? = (tv o)[i]? := by
  induction l with
  | nil => intro j o h; cases h
  | cons x l ih =>
    intro j o h i hi
    show (tv x ++ thsV l)[j * 4 + i]? = _
    have hx : (tv x).length = 4 := rfl
    cases j with
    | zero =>
      injection h with h; subst h
      rw [List.getElem?_append_left (by omega)]
      congr 1; omega
    | succ j =>
      rw [List.getElem?_append_right (by omega), hx, show (j + 1) * 4 + i - 4 = j * 4 + i by omega]
      exact ih j o h i hi
structure TriOk (W0 : World) (x : Tri) : Prop where
  n : ThN x.1 x.2.1 x.2.2
  cb : ∀ y ∈ x.1.cs, y < 18446744073709551616
  nb : ∀ y ∈ x.1.ns, -9223372036854775808 ≤ y ∧ y ≤ 9223372036854775807
  rd : ∀ w', Ext W0 w' → Rd w' 1 x.2.1 (uv x.1.cs) ∧ Rd w' 1 x.2.2 (iv x.1.ns)
/-- a row of things of the call's own -/
structure LiveR (W0 w : World) (B : Nat) (s : Sl) (l : List Th) : Prop where
  ex : ∃ tr : List Tri, tr.map (·.1) = l ∧ (∀ x ∈ tr, TriOk W0 x) ∧ Own w B 45 4 s (thsV tr)
theorem LiveR.nil (W0 w : World) (B : Nat) : LiveR W0 w B ⟨none, 0, 0⟩ [] := ⟨[], rfl, fun x h => (by cases h), .nil ..⟩
theorem LiveR.upd {W0 w w' : World} {B : Nat} {s : Sl} {l : List Th} {S : Nat → Prop} (h : LiveR W0 w B s l) (u : Upd S w w') (hS : ∀ k, S k → k < B ∨ w.heap.size ≤ k) : LiveR W0 w' B s l := by
  obtain ⟨tr, h1, h2, h3⟩ := h.ex
  exact ⟨tr, h1, h2, h3.upd u fun p hp hs => by have := h3.base p hp; have := hS _ hs; omega⟩
theorem LiveR.len {W0 w : World} {B : Nat} {s : Sl} {l : List Th} (h : LiveR W0 w B s l) : l.length = s.n := by
  obtain ⟨tr, h1, h2, h3⟩ := h.ex
  have := h3.len
  rw [thsV_length] at this
  rw [← h1, List.length_map]; omega
theorem LiveR.is {W0 w : World} {B : Nat} {s : Sl} {l : List Th} (h : LiveR W0 w B s l) (x : Ext W0 w) : ThsIs w s l := by
  have hl := h.len
  obtain ⟨tr, h1, h2, h3⟩ := h.ex
  refine ⟨hl, fun i t ht => ?_⟩
  rw [← h1, List.getElem?_map, Option.map_eq_some_iff] at ht
  obtain ⟨y, hy, rfl⟩ := ht
  obtain ⟨hn, hcb, hnb, hrd⟩ := h2 y (List.mem_of_getElem? hy)
  have hi := (List.getElem?_eq_some_iff.1 hy).1
  have hl2 : tr.length = s.n := by rw [← hl, ← h1, List.length_map]
  obtain ⟨p, hp, _⟩ := h3.rd.2 (by omega)
  refine ⟨p, y.2.1, y.2.2, hp, hn.K, hn.T, hcb, hnb, fun w' x' => ⟨?_, hrd w' (x.trans x')⟩⟩
  obtain ⟨p', hp', hc⟩ := (h3.ext x').rd.2 (by omega)
  rw [hp] at hp'; injection hp' with hp'; subst hp'
  have e := thsV_at tr i y hy
  refine ⟨?_, ?_, ?_, ?_⟩ <;> rw [add_add]
  · exact hc _ _ (e 0 (by decide))
  · exact hc _ _ (e 1 (by decide))
  · exact hc _ _ (e 2 (by decide))
  · exact hc _ _ (e 3 (by decide))
theorem LiveR.push {W0 w w1 : World} {B : Nat} {s : Sl} {l : List Th} (h : LiveR W0 w B s l) (hB : B ≤ w.heap.size) {t : Th} {c m : Sl} (ht : TriOk W0 (t, c, m)) (hl : l.length ≤ 1000) (n1 : NewW w (.cells #[.int .i64 t.K, .int .i64 t.T, .slice c.a c.n c.c, .slice m.a m.n m.c] 45) w1) :
    ∃ s' w', Runs Try.prog (Builtin.append_ #[22, 22] 22 #[.slice s.a s.n s.c, .slice (some ⟨w.heap.size, 0, none⟩) 1 1]) w1 (.slice s'.a s'.n s'.c) w' ∧ LiveR W0 w' B s' (l ++ [t]) ∧ Upd (fun k => ∃ p, s.a = some p ∧ k = p.block) w w' ∧ (∀ p, s.a = some p → B ≤ p.block) := by
  have hn := h.len
  obtain ⟨tr, h1, h2, h3⟩ := h.ex
  have z1 := n1.size
  have k1 : Rd w1 4 ⟨some ⟨w.heap.size, 0, none⟩, 1, 1⟩ (thsV [(t, c, m)]) := (Blk.new n1).rd (z := 4) (o := 0) (n := 1) (c := 1) (by simp)
  obtain ⟨s', w', hr, hn', o', u', c'⟩ := (h3.ext n1.ext).append (t := 22) (ty := 22) tab_ok (by rfl) (by rfl) (by decide) k1 (by
    intro v hv
    simp only [thsV, tv, List.flatMap_cons, List.flatMap_nil, List.append_nil, List.mem_cons, List.not_mem_nil, or_false] at hv
    rcases hv with rfl | rfl | rfl | rfl <;> trivial) (by dsimp only; omega) (by dsimp only; omega) (by omega)
  refine ⟨s', w', hr, ⟨tr ++ [(t, c, m)], by rw [List.map_append, h1]; rfl, fun x hx => ?_, by rw [thsV_append]; exact o'⟩, n1.ext.toS.trans u' fun _ _ hn => ⟨hn, hn⟩, fun p hp => (h3.base p hp).1⟩
  rcases List.mem_append.1 hx with hx | hx
  · exact h2 x hx
  · rw [List.mem_singleton.1 hx]; exact ht
theorem ThsIs.tri {W0 W1 : World} {s : Sl} {ts : List Th} (h : ThsIs W0 s ts) (x : Ext W0 W1) {i : Nat} {t : Th} (ht : ts[i]? = some t) :
    ∃ (p : Addr) (c m : Sl), s.a = some p ∧ TriOk W1 (t, c, m) ∧ ∀ w', Ext W0 w' → w'.cell? ((p.add (i * 4)).add 0) = some (.int .i64 t.K) ∧ w'.cell? ((p.add (i * 4)).add 1) = some (.int .i64 t.T) ∧ w'.cell? ((p.add (i * 4)).add 2) = some (.slice c.a c.n c.c) ∧ w'.cell? ((p.add (i * 4)).add 3) = some (.slice m.a m.n m.c) := by
  obtain ⟨p, c, m, hp, hth, hcb, hnb, hc5⟩ := h.thn ht
  exact ⟨p, c, m, hp, ⟨hth, hcb, hnb, fun w' x' => (hc5 w' (x.trans x')).2⟩, fun w' x' => (hc5 w' x').1⟩
theorem roomT_map (ts : List Th) (Q : List Nat) : roomT (Q.map (tsT ts)) = szQ (tsT ts) Q := by unfold roomT szQ; rw [List.map_map]; rfl
theorem ThsIs.cut {W : World} {s : Sl} {ts : List Th} (h : ThsIs W s ts) {k : Nat} (hk : k ≤ s.n) : ThsIs W ⟨if s.c = 0 then s.a else Option.map (fun x : Addr => x.add 0) s.a, k, s.c⟩ (ts.take k) := by
  rw [cut0]; exact h.take hk
theorem Walks.lt {T : Nat → Th} {N n f : Nat} {order : List Nat} {p : Nat → Nat} {A : Ar} (h : Laid T N n f order p A) : ∀ o j, o = some j → j ∈ order → rv p o < 18446744073709551616 := by
  rintro _ j rfl hj
  have h1 := (h.at_ j hj).2.1
  have h2 := h.ok.useIn
  have h3 := h.ok.n
  show p j + 1 < _
  omega
theorem visited_laid {w : World} {b g : Nat} {A : Ar} {T : Nat → Th} {N n f : Nat} {order : List Nat} {p : Nat → Nat} {l : Sl} {roots : List (Option Nat)} (h : ArW 76 w b g A) (hL : Laid T N n f order p A) (hr : Rd w 1 l (uv (roots.map (rv p)))) (hro : ∀ o ∈ roots, ∀ j, o = some j → j ∈ order) (hm : roots.length ≤ 17592186043905) (zero : Bool) :
    Calls Try.prog 14 #[.pointer (some ⟨g, 0, none⟩), .slice l.a l.n l.c, .bool zero] w fun e' w' => ∃ s c0 c1 c2 Q A',
      e' = .returned (doneV s (szQ T Q : Nat) 0 1 (cloV c0 c1 c2)) ∧ Walks T N 0 (roots.foldl pushO []) Q ∧ (∀ j ∈ Q, j ∈ order) ∧ Own w' w.heap.size 23 1 s (uv (roots.map (rv (pNew T (n - f) Q)))) ∧ ArW 76 w' b g A' ∧ Laid T N n (n - f) Q (pNew T (n - f) Q) A' ∧
      A'.use.e = n - f + szQ T Q ∧ (zero = true → ∀ a, f ≤ a → a < f + n → A'.ws[a]? = some 0) ∧ (∀ a, n - f + szQ T Q ≤ a → a < n - f + n → A'.ws[a]? = A.ws[a]?) ∧ Blk w' c0 4 [.bool true] ∧ w.heap.size ≤ c0 ∧ Upd (fun k => k = b ∨ k = g) w w' := by
  obtain ⟨Q, hw, hq, e, hL', hue, hz, hrest⟩ := collect_laid hL roots hro zero
  have hlt : ∀ x ∈ roots.map (rv p), x < 18446744073709551616 := by
    intro x hx
    obtain ⟨o, ho, rfl⟩ := List.mem_map.1 hx
    cases o with
    | none => show 0 < 18446744073709551616; decide
    | some j => exact Walks.lt hL _ j rfl (hro _ ho j rfl)
  refine (visited_spec h hL.opn hr hlt (by rw [List.length_map]; exact hm) zero).mono ?_
  rintro e' w' ⟨s, c0, c1, c2, rfl, V⟩
  obtain ⟨own, ar, ov, hi, u⟩ := V
  have euf := hL'.uf
  rw [e] at own ⊢
  refine ⟨s, c0, c1, c2, Q, _, ?_, hw, hq, own, ar, hL', hue, hz, hrest, ov, hi, u⟩
  rw [hue, euf]
  have : n - f + szQ T Q - (n - f) = szQ T Q := by omega
  rw [this]
/-- how a done stands in its block -/
abbrev DoneB (w : World) (D : Nat) (s : Sl) (n e calls : Int) (kept : Value) : Prop := Blk w D 39 (doneL s n e calls kept)
theorem DoneB.made {w w1 w2 : World} {s : Sl} {n e calls : Int} {kept : Value} (n1 : NewW w (.cells #[.slice none 0 0, .int .i64 0, .int .i64 0, .int .i64 0, .nilFunc] 39) w1) (s2 : SetW w1 ⟨w.heap.size, 0, none⟩ [.slice s.a s.n s.c, .int .i64 n, .int .i64 e, .int .i64 calls, kept] w2) :
    DoneB w2 w.heap.size s n e calls kept ∧ Ext w w2 ∧ w.heap.size < w2.heap.size := by
  have k := s2.blk (Blk.new n1)
  simp only [setsL, List.set] at k
  exact ⟨k, n1.ext.fresh s2.upd (by rintro i rfl; exact Nat.le_refl _), k.lt⟩
end Go.Proofs.Ytgbpglfieellpaa.V
