/-
  The laws of types: More, the plain part.
-/
import Derived.Test.YtiljdcopkgmcbaaLy9
import Derived.Test.YtiljdcopkgmcbaaLy7
namespace Go.Proofs.Ytiljdcopkgmcbaa.V
open Go Go.RowKit
set_option linter.unusedVariables false
set_option linter.unusedSimpArgs false
set_option maxRecDepth 100000

section
variable {L : List Ty} {x : Ty} {n : Int}
theorem more_get (hn : n < L.length + 2) (h2 : 2 ≤ n) : (L ++ [x])[(n - 2).toNat]? = L[(n - 2).toNat]? := List.getElem?_append_left (by omega)
theorem kindT_more (hn : n < L.length + 2) : kindT (L ++ [x]) n = kindT L n := by
  unfold kindT
  split
  · rfl
  · split
    · rfl
    · rw [more_get hn (by omega)]
theorem kindT_low (hk : 2 ≤ kindT L n) : ¬ n < 0 := by
  intro h
  unfold kindT at hk
  rw [if_neg (by omega), if_pos h] at hk
  exact absurd hk (by decide)
theorem kindT_two (hk : 2 ≤ kindT L n) : 2 ≤ n := by
  have := kindT_low hk
  by_cases h : n = 0 ∨ n = 1
  · unfold kindT at hk
    rw [if_pos h] at hk
    omega
  · omega
theorem partsT_more (hn : n < L.length + 2) : partsT (L ++ [x]) n = partsT L n := by
  unfold partsT
  rw [kindT_more hn]
  split
  · rename_i h
    rw [more_get hn (kindT_two (L := L) (by omega))]
  · rfl
theorem ofT_more (hn : n < L.length + 2) : ofT (L ++ [x]) n = ofT L n := by
  unfold ofT
  rw [kindT_more hn]
  split
  · rename_i h
    rw [more_get hn (kindT_two (L := L) (by omega))]
  · rfl
theorem refT_more (hn : n < L.length + 2) : refT (L ++ [x]) n = refT L n := by
  unfold refT; rw [kindT_more hn]
theorem bitsGo_more : ∀ (l : List Int) (k b : Nat), (∀ p ∈ l, p < L.length + 2) → bitsGo (L ++ [x]) l k b = bitsGo L l k b
  | [], k, b, _ => rfl
  | y :: r, k, b, h => by
    rw [bitsGo, bitsGo, refT_more (h y (by simp)), bitsGo_more r _ _ fun p hp => h p (by simp [hp])]
theorem parts_in (hR : Right L) {p : Int} (hp : p ∈ partsT L n) : 0 ≤ p ∧ p < L.length + 2 := by
  unfold partsT at hp
  split at hp
  · split at hp
    · rename_i y hy
      exact (hR.ok y (List.mem_of_getElem? hy)).parts p hp
    · simp at hp
  · simp at hp
theorem of_in (hR : Right L) : ofT L n < L.length + 2 := by
  unfold ofT
  split
  · split
    · rename_i y hy
      exact (hR.ok y (List.mem_of_getElem? hy)).of.2
    · omega
  · omega
theorem recordT_more (hR : Right L) (hn : n < L.length + 2) : recordT (L ++ [x]) n = recordT L n := by
  unfold recordT
  rw [kindT_more hn, partsT_more hn]
  unfold bitsT
  rw [bitsGo_more _ _ _ fun p hp => (parts_in hR hp).2]
theorem arrayT_more (hR : Right L) (hn : n < L.length + 2) (s : Int) : arrayT (L ++ [x]) n s = arrayT L n s := by
  unfold arrayT
  rw [kindT_more hn, ofT_more hn, refT_more (of_in hR)]
theorem allT_more : allT (L ++ [x]) = allT L ++ [x] := rfl
theorem Alk.more (hR : Right L) {a b : Nat} (ha : a < L.length + 2) (hb : b < L.length + 2) : Alk (allT (L ++ [x])) a b ↔ Alk (allT L) a b := by
  have hl := allT_len L
  constructor
  · rintro ⟨R, hB, h⟩
    refine ⟨fun i k => R i k ∧ i < (allT L).length ∧ k < (allT L).length, ?_, h, by omega, by omega⟩
    rintro i k ⟨hr, hi, hk⟩
    obtain ⟨y, z, hy, hz, h1, h2, h3, h4⟩ := hB i k hr
    rw [allT_more, List.getElem?_append_left hi] at hy
    rw [allT_more, List.getElem?_append_left hk] at hz
    have oy := hR.all y (List.mem_of_getElem? hy)
    have oz := hR.all z (List.mem_of_getElem? hz)
    refine ⟨y, z, hy, hz, h1, h2, fun j p q hp hq => ⟨h3 j p q hp hq, ?_, ?_⟩, fun h => ⟨h4 h, ?_, ?_⟩⟩
    · have := oy.parts p (List.mem_of_getElem? hp); omega
    · have := oz.parts q (List.mem_of_getElem? hq); omega
    · have := oy.of; omega
    · have := oz.of; omega
  · rintro ⟨R, hB, h⟩
    refine ⟨R, fun i k hr => ?_, h⟩
    obtain ⟨y, z, hy, hz, h5⟩ := hB i k hr
    exact ⟨y, z, by rw [allT_more, List.getElem?_append_left (List.getElem?_eq_some_iff.1 hy).1]; exact hy, by rw [allT_more, List.getElem?_append_left (List.getElem?_eq_some_iff.1 hz).1]; exact hz, h5⟩
end

theorem is_type {w : World} {v : Value} {x : TyR.T} (h : (Par.agg TyR).Is w v x) :
    ∃ t : Tp, v = .agg #[.int .i64 t.1.kind, .slice t.2.a t.2.n t.2.c, .int .i64 t.1.of] ∧ Rd w 1 t.2 (iv t.1.parts) ∧ t.1.parts.length ≤ 17592186043904 := by
  obtain ⟨vs, rfl, hr⟩ := h
  simp only [Rw.Is, Dt.Is] at hr
  obtain ⟨_, _, rfl, ⟨rfl, _⟩, _, _, rfl, hs, _, _, rfl, ⟨rfl, _⟩, rfl⟩ := hr
  have hn := is_nums (b := 8) (k := .i64) (x := x.2.1) (by simp only [Dt.Is]; exact hs)
  obtain ⟨hv, n1, n2, n3, n4, n5⟩ := hn
  refine ⟨(⟨x.1, x.2.1.2.map fun z => z.1, x.2.2.1⟩, x.2.1.1), by rw [hv], ?_, ?_⟩
  · have e : iv (x.2.1.2.map fun z => z.1) = x.2.1.2.map fun z => .int .i64 z.1 := by unfold iv; exact List.map_map
    show Rd w 1 x.2.1.1 (iv (x.2.1.2.map fun z => z.1))
    rw [e]; exact n4
  · show (x.2.1.2.map fun z => z.1).length ≤ _
    rw [List.length_map]
    have := n4.len1
    rw [List.length_map] at this
    omega
/-- a list's types behind no type -/
theorem app1 {w : World} {B g : Nat} {s : Sl} {T : List Tp} (o : Own w B 41 3 ⟨some ⟨g, 0, none⟩, 0, 0⟩ []) (hT : Tys w s T) (hm : s.n ≤ 1000) (hB : B ≤ w.heap.size) :
    ∃ r w', Runs Try.prog (Builtin.append_ #[22, 22] 22 #[.slice (some ⟨g, 0, none⟩) 0 0, .slice s.a s.n s.c]) w (.slice r.a r.n r.c) w' ∧ r.n = s.n ∧ Own w' B 41 3 r (tyFlat T) ∧ Upd (fun k => k = g) w w' := by
  obtain ⟨r, w', h1, h2, h3, h4, _⟩ := o.append (t := 22) (ty := 22) tab_ok (by rfl) (by rfl) (by decide) hT.row (tyFlat_ones T) (by dsimp only; omega) (by dsimp only; omega) hB
  refine ⟨r, w', h1, by dsimp only at h2; omega, h3, h4.mono fun k _ hn => ?_⟩
  rintro ⟨p, hp, rfl⟩
  injection hp with hp
  exact hn (by rw [← hp])
/-- one type more -/
theorem app2 {w : World} {B g : Nat} {r : Sl} {T : List Tp} {t : Tp} (o : Own w B 41 3 r (tyFlat T)) (hb : Blk w g 41 (tyRow t)) (hm : r.n ≤ 1000) (hB : B ≤ w.heap.size) :
    ∃ r' w', Runs Try.prog (Builtin.append_ #[22, 22] 22 #[.slice r.a r.n r.c, .slice (some ⟨g, 0, none⟩) 1 1]) w (.slice r'.a r'.n r'.c) w' ∧ r'.n = r.n + 1 ∧ Own w' B 41 3 r' (tyFlat (T ++ [t])) ∧ Upd (fun k => B ≤ k) w w' := by
  have rd : Rd w 3 ⟨some ⟨g, 0, none⟩, 1, 1⟩ (tyRow t) := hb.rd (z := 3) (o := 0) (n := 1) (c := 1) (by simp [tyRow])
  obtain ⟨r', w', h1, h2, h3, h4, _⟩ := o.append (t := 22) (ty := 22) tab_ok (by rfl) (by rfl) (by decide) rd (fun v hv => tyFlat_ones [t] v (by simpa [tyFlat] using hv)) (by dsimp only; omega) (by dsimp only; omega) hB
  refine ⟨r', w', h1, h2, by rw [tyFlat_append]; simpa [tyFlat] using h3, h4.mono fun k _ hn => ?_⟩
  rintro ⟨p, hp, rfl⟩
  exact hn (o.base p hp).1
end Go.Proofs.Ytiljdcopkgmcbaa.V
