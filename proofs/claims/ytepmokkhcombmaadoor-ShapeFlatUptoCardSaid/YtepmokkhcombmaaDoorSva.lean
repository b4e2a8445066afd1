/-
  The arguments, as rows and things; how big they are; the library's table.
-/
import Derived.Test.YtepmokkhcombmaaDoorSv9
import Derived.Test.YtepmokkhcombmaaDoorRowL
import Derived.Test.YtepmokkhcombmaaDoorUpto
namespace Go.Proofs.YtepmokkhcombmaaDoor.V
open Go Go.RowKit
set_option linter.unusedVariables false
set_option linter.unusedSimpArgs false
set_option linter.unusedSectionVars false
set_option maxRecDepth 100000

theorem flat_at {α : Type} {f : α → List Value} {z : Nat} : ∀ {l : List α}, (∀ y ∈ l, (f y).length = z) → (l.flatMap f).length = l.length * z ∧ ∀ (j : Nat) (v : Value), (l.flatMap f)[j]? = some v → ∃ (i : Nat) (y : α) (k : Nat), l[i]? = some y ∧ (f y)[k]? = some v ∧ j = i * z + k
  | [], _ => ⟨by simp, fun j v h => by simp at h⟩
  | y :: l, hl => by
    obtain ⟨h1, h2⟩ := flat_at (l := l) fun x hx => hl x (List.mem_cons_of_mem _ hx)
    have h0 := hl y (by simp)
    refine ⟨by rw [List.flatMap_cons, List.length_append, h0, h1, List.length_cons, Nat.succ_mul]; omega, fun j v h => ?_⟩
    rw [List.flatMap_cons] at h
    rcases Nat.lt_or_ge j z with hj | hj
    · rw [List.getElem?_append_left (by omega)] at h
      exact ⟨0, y, j, rfl, h, by omega⟩
    · rw [List.getElem?_append_right (by omega), h0] at h
      obtain ⟨i, x, k, hx, hk, e⟩ := h2 _ _ h
      exact ⟨i + 1, x, k, by simpa using hx, hk, by rw [Nat.succ_mul]; omega⟩
theorem rd_of {b : Nat} {r : Rw} {w : World} {v : Value} {x : (Dt.sl b r).T} (h : (Dt.sl b r).Is w v x) {f : r.T → List Value} (hf : ∀ y vs, y ∈ x.2 → r.Is w vs y → vs = f y) :
    v = .slice x.1.a x.1.n x.1.c ∧ Rd w r.n x.1 (x.2.flatMap f) ∧ ∀ y ∈ x.2, ∃ vs, r.Is w vs y := by
  simp only [Dt.Is] at h
  obtain ⟨h1, h2, h3, h4, h5, h6, h7⟩ := h
  have hin : ∀ y ∈ x.2, ∃ vs, r.Is w vs y := fun y hy => by
    obtain ⟨i, hi, rfl⟩ := List.getElem_of_mem hy
    obtain ⟨p', vs, hp, hat, hl, hi'⟩ := h7 i _ (List.getElem?_eq_getElem hi)
    exact ⟨vs, hi'⟩
  have hlen : ∀ y ∈ x.2, (f y).length = r.n := fun y hy => by
    obtain ⟨vs, hv⟩ := hin y hy
    rw [← hf y vs hy hv]; exact hv.len
  obtain ⟨g1, g2⟩ := flat_at hlen
  refine ⟨h1, ⟨by rw [g1, h2], fun hn => ?_⟩, hin⟩
  cases ha : x.1.a with
  | none => have := h6 ha; omega
  | some p =>
    refine ⟨p, rfl, fun j u hj => ?_⟩
    obtain ⟨i, y, k, hy, hk, rfl⟩ := g2 j u hj
    obtain ⟨p', vs, hp, hat, hl, hi⟩ := h7 i y hy
    rw [ha] at hp; injection hp with hp; subst hp
    have e := hf y vs (List.mem_of_getElem? hy) hi
    subst e
    have := hat k u hk
    rw [add_add] at this
    exact this
abbrev CellR : Rw := .cons .bool (.cons (.int .u64) (.cons .str .nil))
abbrev RowR : Rw := .cons (.int .i64) (.cons (.int .i64) (.cons (.sl 32 CellR) (.cons (.sl 32 CellR) .nil)))
abbrev ThR : Rw := .cons (.int .u64) (.cons .str (.cons (.sl 32 CellR) .nil))
abbrev CT := Bool × Int × ByteArray × Unit
abbrev RT := Int × Int × (Sl × List CT) × (Sl × List CT) × Unit
abbrev TT := Int × ByteArray × (Sl × List CT) × Unit
def clOf (y : CT) : Cl := ⟨y.1, y.2.1.toNat, y.2.2.1.data.toList⟩
def rpOf (y : RT) : Rp := ⟨y.1, y.2.1, y.2.2.1.2.map clOf, y.2.2.2.1.2.map clOf⟩
def thOf (y : TT) : Th := ⟨y.1.toNat, y.2.1.data.toList, y.2.2.1.2.map clOf⟩
theorem is_cell {w : World} {vs : List Value} {y : CT} (h : CellR.Is w vs y) : vs = clV1 (clOf y) ∧ (clOf y).id < 18446744073709551616 := by
  obtain ⟨v0, t0, rfl, h0, v1, t1, rfl, h1, v2, t2, rfl, h2, rfl⟩ := h
  obtain rfl := h0
  obtain ⟨rfl, hw⟩ := h1
  obtain ⟨rfl, _⟩ := h2
  have := wf_u64 hw
  refine ⟨?_, ?_⟩
  · show _ = [Value.bool y.1, .int .u64 ((y.2.1.toNat : Nat) : Int), .string (mkB y.2.2.1.data.toList)]
    rw [mkB_data, Int.toNat_of_nonneg this.1]
  · show y.2.1.toNat < _
    omega
theorem is_cells {w : World} {v : Value} {x : Sl × List CT} (h : (Dt.sl 32 CellR).Is w v x) : v = .slice x.1.a x.1.n x.1.c ∧ Rd w 3 x.1 (clV (x.2.map clOf)) ∧ Okc (x.2.map clOf) := by
  obtain ⟨h1, h2, h3⟩ := rd_of (b := 32) (r := CellR) (x := x) h (f := fun y : CT => clV1 (clOf y)) fun y vs _ hy => (is_cell (y := y) hy).1
  refine ⟨h1, ?_, fun c hc => ?_⟩
  · have : clV (x.2.map clOf) = x.2.flatMap fun y => clV1 (clOf y) := by unfold clV; rw [List.flatMap_map]
    rw [this]; exact h2
  · obtain ⟨y, hy, rfl⟩ := List.mem_map.1 hc
    obtain ⟨vs, hv⟩ := h3 y hy
    exact (is_cell hv).2
abbrev qr (y : RT) : QR := (y.1, y.2.1, y.2.2.1.1, y.2.2.2.1.1)
abbrev qt (y : TT) : QT := (y.1.toNat, y.2.1.data.toList, y.2.2.1.1)
theorem is_row {w : World} {vs : List Value} {y : RT} (h : RowR.Is w vs y) : vs = [.int .i64 y.1, .int .i64 y.2.1, .slice y.2.2.1.1.a y.2.2.1.1.n y.2.2.1.1.c, .slice y.2.2.2.1.1.a y.2.2.2.1.1.n y.2.2.2.1.1.c] ∧ (-9223372036854775808 ≤ y.1 ∧ y.1 ≤ 9223372036854775807) ∧ (-9223372036854775808 ≤ y.2.1 ∧ y.2.1 ≤ 9223372036854775807) ∧
    (Rd w 3 y.2.2.1.1 (clV (y.2.2.1.2.map clOf)) ∧ Okc (y.2.2.1.2.map clOf)) ∧ (Rd w 3 y.2.2.2.1.1 (clV (y.2.2.2.1.2.map clOf)) ∧ Okc (y.2.2.2.1.2.map clOf)) := by
  obtain ⟨v0, t0, rfl, h0, v1, t1, rfl, h1, v2, t2, rfl, h2, v3, t3, rfl, h3, rfl⟩ := h
  obtain ⟨rfl, w0⟩ := h0
  obtain ⟨rfl, w1⟩ := h1
  obtain ⟨rfl, g2⟩ := is_cells h2
  obtain ⟨rfl, g3⟩ := is_cells h3
  exact ⟨rfl, wf_i64 w0, wf_i64 w1, g2, g3⟩
theorem is_thing {w : World} {vs : List Value} {y : TT} (h : ThR.Is w vs y) : vs = [.int .u64 ((y.1.toNat : Nat) : Int), .string (mkB y.2.1.data.toList), .slice y.2.2.1.1.a y.2.2.1.1.n y.2.2.1.1.c] ∧ y.1.toNat < 18446744073709551616 ∧
    (Rd w 3 y.2.2.1.1 (clV (y.2.2.1.2.map clOf)) ∧ Okc (y.2.2.1.2.map clOf)) := by
  obtain ⟨v0, t0, rfl, h0, v1, t1, rfl, h1, v2, t2, rfl, h2, rfl⟩ := h
  obtain ⟨rfl, w0⟩ := h0
  obtain ⟨rfl, w1⟩ := h1
  obtain ⟨rfl, g2⟩ := is_cells h2
  have := wf_u64 w0
  exact ⟨by rw [mkB_data, Int.toNat_of_nonneg this.1], by omega, g2⟩
theorem rwV_map (l : List RT) : rwV (l.map qr) = l.flatMap fun y => [.int .i64 y.1, .int .i64 y.2.1, .slice y.2.2.1.1.a y.2.2.1.1.n y.2.2.1.1.c, .slice y.2.2.2.1.1.a y.2.2.2.1.1.n y.2.2.2.1.1.c] := by unfold rwV; rw [List.flatMap_map]
theorem thV_map (l : List TT) : thV (l.map qt) = l.flatMap fun y => [.int .u64 ((y.1.toNat : Nat) : Int), .string (mkB y.2.1.data.toList), .slice y.2.2.1.1.a y.2.2.1.1.n y.2.2.1.1.c] := by unfold thV; rw [List.flatMap_map]
abbrev frow (y : RT) : List Value := [.int .i64 y.1, .int .i64 y.2.1, .slice y.2.2.1.1.a y.2.2.1.1.n y.2.2.1.1.c, .slice y.2.2.2.1.1.a y.2.2.2.1.1.n y.2.2.2.1.1.c]
abbrev fthing (y : TT) : List Value := [.int .u64 ((y.1.toNat : Nat) : Int), .string (mkB y.2.1.data.toList), .slice y.2.2.1.1.a y.2.2.1.1.n y.2.2.1.1.c]
theorem is_rows {w : World} {v : Value} {x : Sl × List RT} (h : (Dt.sl 64 RowR).Is w v x) : v = .slice x.1.a x.1.n x.1.c ∧ RwK (Ext w) x.1 (x.2.map rpOf) ∧ Okr (x.2.map rpOf) := by
  obtain ⟨h1, h2, h3⟩ := rd_of (b := 64) (r := RowR) (x := x) h (f := frow) fun y vs _ hy => (is_row (y := y) hy).1
  refine ⟨h1, ⟨x.2.map qr, by simp, fun k a t ha ht => ?_, fun w' u => ⟨?_, fun k a t ha ht => ?_⟩⟩, fun r hr => ?_⟩
  · rw [List.getElem?_map, Option.map_eq_some_iff] at ha ht
    obtain ⟨y, hy, rfl⟩ := ha
    obtain ⟨y', hy', rfl⟩ := ht
    rw [hy] at hy'; injection hy' with hy'; subst hy'
    exact ⟨rfl, rfl⟩
  · rw [rwV_map]
    exact h2.ext u
  · rw [List.getElem?_map, Option.map_eq_some_iff] at ha ht
    obtain ⟨y, hy, rfl⟩ := ha
    obtain ⟨y', hy', rfl⟩ := ht
    rw [hy] at hy'; injection hy' with hy'; subst hy'
    obtain ⟨vs, hv⟩ := h3 y (List.mem_of_getElem? hy)
    obtain ⟨_, _, _, g2, g3⟩ := is_row hv
    exact ⟨g2.1.ext u, g3.1.ext u⟩
  · obtain ⟨y, hy, rfl⟩ := List.mem_map.1 hr
    obtain ⟨vs, hv⟩ := h3 y hy
    obtain ⟨_, e1, e2, g2, g3⟩ := is_row hv
    exact ⟨g2.2, g3.2, e1, e2⟩
theorem is_things {w : World} {v : Value} {x : Sl × List TT} (h : (Dt.sl 48 ThR).Is w v x) : v = .slice x.1.a x.1.n x.1.c ∧ ThK (Ext w) x.1 (x.2.map thOf) ∧ (∀ t ∈ x.2.map thOf, Okc t.cells) ∧ ∀ t ∈ x.2.map thOf, t.id < 18446744073709551616 := by
  obtain ⟨h1, h2, h3⟩ := rd_of (b := 48) (r := ThR) (x := x) h (f := fthing) fun y vs _ hy => (is_thing (y := y) hy).1
  refine ⟨h1, ⟨x.2.map qt, by simp, fun k a t ha ht => ?_, fun w' u => ⟨?_, fun k a t ha ht => ?_⟩⟩, fun r hr => ?_, fun r hr => ?_⟩
  · rw [List.getElem?_map, Option.map_eq_some_iff] at ha ht
    obtain ⟨y, hy, rfl⟩ := ha
    obtain ⟨y', hy', rfl⟩ := ht
    rw [hy] at hy'; injection hy' with hy'; subst hy'
    exact ⟨rfl, rfl⟩
  · rw [thV_map]
    exact h2.ext u
  · rw [List.getElem?_map, Option.map_eq_some_iff] at ha ht
    obtain ⟨y, hy, rfl⟩ := ha
    obtain ⟨y', hy', rfl⟩ := ht
    rw [hy] at hy'; injection hy' with hy'; subst hy'
    obtain ⟨vs, hv⟩ := h3 y (List.mem_of_getElem? hy)
    exact (is_thing hv).2.2.1.ext u
  · obtain ⟨y, hy, rfl⟩ := List.mem_map.1 hr
    obtain ⟨vs, hv⟩ := h3 y hy
    exact (is_thing hv).2.2.2
  · obtain ⟨y, hy, rfl⟩ := List.mem_map.1 hr
    obtain ⟨vs, hv⟩ := h3 y hy
    exact (is_thing hv).2.1

/-! ### how big -/
def cellK (y : CT) : Nat := Rw.bulk CellR y
def rowK (y : RT) : Nat := Rw.bulk RowR y
def thK (y : TT) : Nat := Rw.bulk ThR y
def cellsK (x : Sl × List CT) : Nat := Dt.bulk (.sl 32 CellR) x
theorem cellB_bulk (l : List CT) : cellsB (l.map clOf) ≤ 11 * (l.map cellK).sum := by
  induction l with
  | nil => exact Nat.zero_le _
  | cons y l ih =>
    unfold cellsB at *
    simp only [List.map_cons, List.sum_cons]
    have h1 : cellB (clOf y) = y.2.2.1.data.toList.length + 32 := rfl
    have h2 : cellK y = 1 + (1 + ((y.2.2.1.size + 1) + 0)) := rfl
    have h3 : y.2.2.1.data.toList.length = y.2.2.1.size := Array.length_toList
    rw [h2]
    omega
theorem cellsB_bulk (x : Sl × List CT) : cellsB (x.2.map clOf) ≤ 11 * cellsK x := by
  have h1 := cellB_bulk x.2
  have h2 : cellsK x = (x.2.map cellK).sum + 1 := rfl
  rw [h2]
  omega
theorem rowsB_bulk (l : List RT) : rowsB (l.map rpOf) ≤ 22 * (l.map rowK).sum := by
  induction l with
  | nil => exact Nat.zero_le _
  | cons y l ih =>
    unfold rowsB at *
    simp only [List.map_cons, List.sum_cons]
    have h1 : rowB (rpOf y) = 64 + (cellsB (y.2.2.1.2.map clOf) + cellsB (y.2.2.2.1.2.map clOf)) := rfl
    have h2 : rowK y = 1 + (1 + (cellsK y.2.2.1 + (cellsK y.2.2.2.1 + 0))) := rfl
    have h3 := cellsB_bulk y.2.2.1
    have h4 := cellsB_bulk y.2.2.2.1
    have b : ∀ z, 1 ≤ cellsK z := fun z => by show 1 ≤ _ + 1; omega
    have b1 := b y.2.2.1
    have b2 := b y.2.2.2.1
    rw [h2, h1]
    omega
theorem ob_bulk {l : List TT} {n : Nat} (hn : (l.map thK).sum ≤ n) : l.length ≤ n ∧ ∀ t ∈ l.map thOf, 64 + (t.lab.length + cellsB t.cells) ≤ 32 * n := by
  induction l generalizing n with
  | nil => exact ⟨Nat.zero_le _, fun t ht => (by cases ht)⟩
  | cons y l ih =>
    rw [List.map_cons, List.sum_cons] at hn
    have h2 : thK y = 1 + ((y.2.1.size + 1) + (cellsK y.2.2.1 + 0)) := rfl
    rw [h2] at hn
    obtain ⟨g1, g2⟩ := ih (n := n - 1) (by omega)
    refine ⟨by rw [List.length_cons]; omega, fun t ht => ?_⟩
    rw [List.map_cons, List.mem_cons] at ht
    rcases ht with rfl | ht
    · have h3 := cellsB_bulk y.2.2.1
      have h4 : (thOf y).lab.length = y.2.1.size := Array.length_toList
      have h5 : (thOf y).cells = y.2.2.1.2.map clOf := rfl
      rw [h4, h5]
      omega
    · have := g2 t ht; omega
theorem dok_of {x : Sl × List RT} {y : Sl × List TT} {m : Nat} (hr : Okr (x.2.map rpOf)) (hl : ∀ t ∈ y.2.map thOf, Okc t.cells) (hb : (Par.one (.sl 64 RowR)).bulk x + ((Par.one (.sl 48 ThR)).bulk y + m) ≤ 1048576) : Dok (x.2.map rpOf) (y.2.map thOf) := by
  have b1 : (Par.one (.sl 64 RowR)).bulk x = (x.2.map rowK).sum + 1 := rfl
  have b2 : (Par.one (.sl 48 ThR)).bulk y = (y.2.map thK).sum + 1 := rfl
  rw [b1, b2] at hb
  have h1 := rowsB_bulk x.2
  obtain ⟨h2, h3⟩ := ob_bulk (l := y.2) (n := 1048576) (by omega)
  exact ⟨hr, by omega, by rw [List.length_map]; omega, hl, fun t ht => by have := h3 t ht; omega⟩
theorem dok_rows {x : Sl × List RT} {m : Nat} (hr : Okr (x.2.map rpOf)) (hb : (Par.one (.sl 64 RowR)).bulk x + m ≤ 1048576) : Dok (x.2.map rpOf) [] := by
  have b1 : (Par.one (.sl 64 RowR)).bulk x = (x.2.map rowK).sum + 1 := rfl
  rw [b1] at hb
  have h1 := rowsB_bulk x.2
  exact ⟨hr, by omega, Nat.zero_le _, fun t ht => (by cases ht), fun t ht => (by cases ht)⟩
theorem of0 (L : List Th) : ofT 0 L = findT L := by funext id; unfold ofT; rw [if_neg (by simp)]

/-! ### the library's table -/
theorem var_below {P : Program} {w w' : World} {B : Nat} {name : String} {cs : Array Value} (h : w.var? P name = some cs) (x : Below B w w') (hB : w.heap.size ≤ B) : w'.var? P name = some cs := by
  unfold World.var? at h ⊢
  rw [Option.bind_eq_some_iff] at h ⊢
  obtain ⟨g, hg, h⟩ := h
  refine ⟨g, hg, ?_⟩
  have hlt : g < w.heap.size := by
    rcases Nat.lt_or_ge g w.heap.size with h1 | h1
    · exact h1
    · rw [Array.getElem?_eq_none h1] at h; cases h
  rw [x.block g (by omega)]; exact h
theorem tbf {w : World} (L : Lay w) : TBf w := fun w' u B hB w'' b => var_below L ((Upd.below u).trans (b.mono hB)) (Nat.le_refl _)
end Go.Proofs.YtepmokkhcombmaaDoor.V
