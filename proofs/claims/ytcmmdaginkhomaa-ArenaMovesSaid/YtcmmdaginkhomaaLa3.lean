/-
  What laid gives, in memory.
-/
import Derived.Test.YtcmmdaginkhomaaLa2
namespace Go.Proofs.Ytcmmdaginkhomaa.V
open Go Go.RowKit
set_option linter.unusedVariables false
set_option linter.unusedSimpArgs false
set_option maxRecDepth 100000

def hdsV (l : List Hd) : List Value := l.flatMap hdL
theorem hdsV_append (l m : List Hd) : hdsV (l ++ m) = hdsV l ++ hdsV m := List.flatMap_append
theorem hdsV_length (l : List Hd) : (hdsV l).length = l.length * 4 := by
  induction l with
  | nil => rfl
  | cons o l ih => show (hdL o ++ hdsV l).length = _; rw [List.length_append, ih]; show 4 + l.length * 4 = (l.length + 1) * 4; omega
theorem hdsV_ones (l : List Hd) : ∀ v ∈ hdsV l, one v := by
  intro v hv
  obtain ⟨o, _, h⟩ := List.mem_flatMap.1 hv
  simp only [hdL, List.mem_cons, List.not_mem_nil, or_false] at h
  rcases h with rfl | rfl | rfl | rfl <;> exact trivial
theorem hdsV_at (l : List Hd) : ∀ (j : Nat) (o : Hd), l[j]? = some o → ∀ i : Nat, i < 4 → (hdsV l)[j * 4 + i]? = (hdL o)[i]? := by
  induction l with
  | nil => intro j o h; cases h
  | cons x l ih =>
    intro j o h i hi
    show (hdL x ++ hdsV l)[j * 4 + i]? = _
    have hx : (hdL x).length = 4 := rfl
    cases j with
    | zero =>
      injection h with h; subst h
      rw [List.getElem?_append_left (by omega)]
      congr 1; omega
    | succ j =>
      rw [List.getElem?_append_right (by omega), hx, show (j + 1) * 4 + i - 4 = j * 4 + i by omega]
      exact ih j o h i hi
theorem Rd.hds {w : World} {s : Sl} {l : List Hd} (h : Rd w 4 s (hdsV l)) {j : Nat} {o : Hd} (ho : l[j]? = some o) :
    ∃ p, s.a = some p ∧ w.cell? ((p.add (j * 4)).add 0) = some (.int .i64 o.k) ∧ w.cell? ((p.add (j * 4)).add 1) = some (.int .i64 o.t) ∧
      w.cell? ((p.add (j * 4)).add 2) = some (.int .i64 o.l) ∧ w.cell? ((p.add (j * 4)).add 3) = some (.int .u64 (o.r : Nat)) := by
  have hj := (List.getElem?_eq_some_iff.1 ho).1
  have hn := h.1
  rw [hdsV_length] at hn
  obtain ⟨p, hp, hc⟩ := h.2 (by omega)
  have e := hdsV_at l j o ho
  refine ⟨p, hp, ?_, ?_, ?_, ?_⟩ <;> rw [add_add]
  · exact hc _ _ (e 0 (by decide))
  · exact hc _ _ (e 1 (by decide))
  · exact hc _ _ (e 2 (by decide))
  · exact hc _ _ (e 3 (by decide))
def slV (l : List Sl) : List Value := l.map fun c => .slice c.a c.n c.c
theorem slV_ones (l : List Sl) : ∀ v ∈ slV l, one v := by
  intro v hv; obtain ⟨_, _, rfl⟩ := List.mem_map.1 hv; exact trivial
/-- rows of the arena's objects, as laid gives them: references, headers, cells -/
structure Ld (w w' : World) (b g N : Nat) (os : List Lo) (s s1 s2 : Sl) (cl : List Sl) : Prop where
  a : ArW 92 w' b g (laidA N os)
  r : Own w' w.heap.size 22 1 s (uv (refsOf os))
  h : Own w' w.heap.size 24 4 s1 (hdsV (os.map (·.1)))
  c : Own w' w.heap.size 37 1 s2 (slV cl)
  cn : cl.length = os.length
  cs : ∀ (k : Nat) (o : Lo) (c : Sl), os[k]? = some o → cl[k]? = some c → Own w' w.heap.size 22 1 c (uv o.2)
  ap : ∀ c ∈ cl, ∀ q q' : Addr, c.a = some q → s.a = some q' → q.block ≠ q'.block
  u : Upd (fun k => k = b ∨ k = g) w w'
  lt : b < w.heap.size ∧ g < w.heap.size
section
variable {w w' w'' : World} {b g N : Nat} {os : List Lo} {s s1 s2 : Sl} {cl : List Sl} {S : Nat → Prop}
theorem Ld.ext (h : Ld w w' b g N os s s1 s2 cl) (x : Ext w' w'') : Ld w w'' b g N os s s1 s2 cl :=
  ⟨h.a.ext x, h.r.ext x, h.h.ext x, h.c.ext x, h.cn, fun k o c ho hc => (h.cs k o c ho hc).ext x, h.ap, h.u.trans x fun i hi hn => ⟨hn, not_false⟩, h.lt⟩
/-- blocks that came after all these are set -/
theorem Ld.keep (h : Ld w w' b g N os s s1 s2 cl) (u : Upd S w' w'') (hS : ∀ i, S i → w'.heap.size ≤ i) : Ld w w'' b g N os s s1 s2 cl := by
  have no : ∀ {o : Sl} {e z : Nat} {xs : List Value}, Own w' w.heap.size e z o xs → o.off S := fun ho q hq hs => by
    have := (ho.base q hq).2; have := hS _ hs; omega
  have z := h.u.size
  have hl := h.lt
  exact ⟨h.a.upd u (fun hs => by have := hS _ hs; omega) (fun hs => by have := hS _ hs; omega), h.r.upd u (no h.r), h.h.upd u (no h.h), h.c.upd u (no h.c), h.cn, fun k o c ho hc => (h.cs k o c ho hc).upd u (no (h.cs k o c ho hc)), h.ap,
    h.u.trans u fun i hi hn => ⟨hn, fun hs => by have := hS _ hs; omega⟩, h.lt⟩
end
/-- things, as they are handed in -/
structure ThsIs (W0 : World) (s : Sl) (ts : List Th) : Prop where
  n : ts.length = s.n
  at_ : ∀ (i : Nat) (t : Th), ts[i]? = some t → ∃ (p : Addr) (c m : Sl), s.a = some p ∧ (-9223372036854775808 ≤ t.K ∧ t.K ≤ 9223372036854775807) ∧ (-9223372036854775808 ≤ t.T ∧ t.T ≤ 9223372036854775807) ∧ (∀ y ∈ t.cs, y < 18446744073709551616) ∧ (∀ y ∈ t.ns, -9223372036854775808 ≤ y ∧ y ≤ 9223372036854775807) ∧
    ∀ w', Ext W0 w' → (w'.cell? ((p.add (i * 4)).add 0) = some (.int .i64 t.K) ∧ w'.cell? ((p.add (i * 4)).add 1) = some (.int .i64 t.T) ∧ w'.cell? ((p.add (i * 4)).add 2) = some (.slice c.a c.n c.c) ∧ w'.cell? ((p.add (i * 4)).add 3) = some (.slice m.a m.n m.c)) ∧ Rd w' 1 c (uv t.cs) ∧ Rd w' 1 m (iv t.ns)
end Go.Proofs.Ytcmmdaginkhomaa.V
