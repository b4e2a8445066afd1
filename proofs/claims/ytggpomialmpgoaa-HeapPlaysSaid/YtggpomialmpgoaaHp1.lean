/-
  The heap: its forced allocations in a map; what New makes; Due; Stats.
-/
import Derived.Test.YtggpomialmpgoaaChA
import Derived.Test.YtggpomialmpgoaaVcH
namespace Go.Proofs.Ytggpomialmpgoaa.V
open Go Go.RowKit
set_option linter.unusedVariables false
set_option linter.unusedSimpArgs false
set_option maxRecDepth 100000

def pk (c n : Int) : Int := if c < 0 then (-(c + 1)).tmod n else c.tmod n
theorem pk_lt {c n : Int} (hn : 0 < n) : 0 ≤ pk c n ∧ pk c n < n := by
  unfold pk
  split
  · rw [Int.tmod_eq_emod_of_nonneg (by omega)]
    exact ⟨Int.emod_nonneg _ (by omega), Int.emod_lt_of_pos _ hn⟩
  · rw [Int.tmod_eq_emod_of_nonneg (by omega)]
    exact ⟨Int.emod_nonneg _ (by omega), Int.emod_lt_of_pos _ hn⟩
theorem pick_spec (c n : Int) (w : World) (h0 : -9223372036854775808 ≤ c) (h1 : c ≤ 9223372036854775807) (hn : 0 < n) :
    Calls Try.prog 9 #[.int .i64 c, .int .i64 n] w fun e w' => e = .returned (.int .i64 (pk c n)) ∧ w' = w := by
  refine vc_9 _ _ _ _ ?_
  simp only [eq_self, false_or, or_false, true_and, and_true, decide_eq_true_eq, decide_eq_false_iff_not, gd_st, gd_sf, exists_eq_left', exists_eq_left, Option.some.injEq, Sl.eta, Nat.reduceLeDiff, Int.reduceLE, Int.reduceLT, Int.reduceEq, Int.reduceNe, Nat.reduceMul, Nat.reduceAdd, Nat.reduceSub, Int.toNat_natCast, beq_iff_eq, bne_iff_ne, beq_eq_false_iff_ne, bne_eq_false_iff_eq, pick_and, pick_or, Bool.and_eq_true, Bool.or_eq_true, Bool.and_eq_false_iff, Bool.or_eq_false_iff, ne_eq, not_false_eq_true, Bool.not_eq_true', Bool.not_eq_false', reduceCtorEq, Nat.le_refl, Nat.zero_mul, Nat.mul_one, Nat.zero_add, Int.reduceToNat, ones, one, add_mk, Decidable.not_not, cond_true, cond_false, true_implies, false_implies, implies_true, Bool.not_true, Bool.not_false]
  refine ⟨fun h => ⟨by omega, ?_⟩, fun h => ⟨by omega, ?_⟩⟩
  · rw [wrap_i64 (n := c + 1) (by omega) (by omega), wrap_i64 (by omega) (by omega), pk, if_pos h]
    congr 3
    omega
  · rw [pk, if_neg h]
/-! ### the map of what is forced (type 30: map[int]struct, whose values have no cells, type 80) -/
theorem fm_und : Try.prog.underlying 30 = some (.map 3 80) := by kernel_rfl
theorem fm_key : Try.prog.underlying 3 = some (.int .i64) := by kernel_rfl
theorem fm_zero (w : World) : (zeroValue 80).run Try.prog w = .ok (.agg #[]) w := by
  have hi : (Try.prog.info? 80).bind (·.zero) = some (.agg #[]) := by kernel_rfl
  obtain ⟨i, hi, hz⟩ := Option.bind_eq_some_iff.1 hi
  simp only [zeroValue, typeInfo, Sem.run_bind, run_program, hi, Result.andThen_ok, Sem.run_pure, hz]
open Go.MapKept in
theorem run_makeMap' {P : Program} {w : World} {mty : Nat} {kt et : Nat} (hm : P.underlying mty = some (.map kt et)) (k : IntKind) (n : Int) : ∃ w', Runs P (Instr.makeMap mty (some (.int k n))) w (.map (some w.heap.size)) w' ∧ NewW w (.map #[] 0) w' :=
  ⟨w.alloc (.map #[] 0), by simp [Runs, Instr.makeMap, run_underlying hm, asInt, asIntOf, Result.andThen], rfl⟩
open Go.MapKept in
theorem MapI.look2 {P : Program} {w : World} {mty kt et r : Nat} {k : IntKind} {f : Int → Option Value} (hm : P.underlying mty = some (.map kt et)) (hd : P.underlying kt = some (.int k)) {z : Value} (hz : (zeroValue et).run P w = .ok z w) (h : MapI w r k f) (n : Int) :
    Runs P (Instr.lookup mty (.map (some r)) (.int k n) true) w (.tuple #[(f n).getD z, .bool (f n).isSome]) w := by
  obtain ⟨es, clock, hb, h1, h2, h3⟩ := h
  have hks : ∀ x ∈ es.toList, IsKey (.int k) x.key := fun x hx => by obtain ⟨n, hn⟩ := h2 x hx; rw [hn]; simp [IsKey]
  have hk : IsKey (.int k) (.int k n) := by simp [IsKey]
  unfold Runs
  rcases findNow_spec hk es.toList 0 hks with ⟨e1, e2⟩ | ⟨j, e, e1, e2, e3⟩
  · have hn : f n = none := by
      cases hf : f n with
      | none => rfl
      | some v =>
        obtain ⟨e, he, hke, _⟩ := (h3 n v).1 hf
        exact (e2 e he hke).elim
    rw [hn]
    simp [Instr.lookup, run_underlying hm, Go.MapKept.run_getObj_map hb, run_checkKey hd hk, run_findKey hd e1, hz, Result.andThen]
  · have hn : f n = some e.val := (h3 n _).2 ⟨e, List.mem_of_getElem? e2, e3, rfl⟩
    rw [hn]
    simp [Instr.lookup, run_underlying hm, Go.MapKept.run_getObj_map hb, run_checkKey hd hk, run_findKey hd e1, Result.andThen]
theorem MapI.ne {w : World} {r g T : Nat} {k : IntKind} {f : Int → Option Value} {cs : List Value} (h : MapI w r k f) (hb : Blk w g T cs) : r ≠ g := by
  rintro rfl
  obtain ⟨es, clock, hh, _⟩ := h
  unfold Blk at hb
  rw [hb] at hh
  injection hh with hh
  cases hh
theorem MapI.ext {w w' : World} {r : Nat} {k : IntKind} {f : Int → Option Value} (h : MapI w r k f) (u : Ext w w') : MapI w' r k f := h.upd u not_false
def fF (fl : List Int) : Int → Option Value := fun m => if m ∈ fl then some (.agg #[]) else none
theorem fF_nil : (fun _ => none) = fF [] := by funext m; unfold fF; rw [if_neg (by simp)]
theorem fF_snoc (fl : List Int) (n : Int) : (fun m => if m = n then some (Value.agg #[]) else fF fl m) = fF (fl ++ [n]) := by
  funext m
  unfold fF
  by_cases h : m = n
  · rw [if_pos h, if_pos (by simp [h])]
  · rw [if_neg h]
    by_cases h2 : m ∈ fl
    · rw [if_pos h2, if_pos (by simp [h2])]
    · rw [if_neg h2, if_neg (by simp [h, h2])]
theorem fF_some (fl : List Int) (n : Int) : (fF fl n).isSome = decide (n ∈ fl) := by
  unfold fF
  by_cases h : n ∈ fl
  · rw [if_pos h, decide_eq_true h]; rfl
  · rw [if_neg h, decide_eq_false h]; rfl
theorem fF_get (fl : List Int) (n : Int) : (fF fl n).getD (.agg #[]) = .agg #[] := by unfold fF; split <;> rfl
/-- a heap: its arena, what is forced, is it zeroed, was it collected since the last allocation, its counts -/
structure Hp where
  A : Ar
  fl : List Int
  zero : Bool
  fresh : Bool
  al : Int
  co : Int
  cp : Int
/-- the program's heap in memory -/
structure HpW (w : World) (x b g r : Nat) (H : Hp) : Prop where
  ar : ArW 91 w b g H.A
  hd : Blk w x 34 [.pointer (some ⟨g, 0, none⟩), .map (some r), .bool H.zero, .bool H.fresh, .int .i64 H.al, .int .i64 H.co, .int .i64 H.cp]
  mp : MapI w r .i64 (fF H.fl)
/-- the document's -/
structure RpW (w : World) (x b g B : Nat) (fs : Sl) (H : Hp) : Prop where
  ar : ArW 71 w b g H.A
  hd : Blk w x 74 [.pointer (some ⟨g, 0, none⟩), .slice fs.a fs.n fs.c, .bool H.zero, .bool H.fresh, .int .i64 H.al, .int .i64 H.co, .int .i64 H.cp]
  fo : Own w B 3 1 fs (iv H.fl)
section
variable {w w' : World} {x b g r B : Nat} {fs : Sl} {H : Hp} {S : Nat → Prop}
theorem HpW.upd (h : HpW w x b g r H) (u : Upd S w w') (hx : ¬ S x) (hb : ¬ S b) (hg : ¬ S g) (hr : ¬ S r) : HpW w' x b g r H := ⟨h.ar.upd u hg hb, h.hd.upd u hx, h.mp.upd u hr⟩
theorem HpW.ext (h : HpW w x b g r H) (u : Ext w w') : HpW w' x b g r H := ⟨h.ar.ext u, h.hd.ext u, h.mp.ext u⟩
theorem RpW.upd (h : RpW w x b g B fs H) (u : Upd S w w') (hx : ¬ S x) (hb : ¬ S b) (hg : ¬ S g) (hf : fs.off S) : RpW w' x b g B fs H := ⟨h.ar.upd u hg hb, h.hd.upd u hx, h.fo.upd u hf⟩
theorem RpW.ext (h : RpW w x b g B fs H) (u : Ext w w') : RpW w' x b g B fs H := ⟨h.ar.ext u, h.hd.ext u, h.fo.ext u⟩
theorem HpW.lt (h : HpW w x b g r H) : x < w.heap.size ∧ b < w.heap.size ∧ g < w.heap.size ∧ r < w.heap.size := ⟨h.hd.lt, h.ar.ws.lt, h.ar.hd.lt, h.mp.lt⟩
theorem HpW.ap (h : HpW w x b g r H) : x ≠ b ∧ x ≠ g ∧ r ≠ x ∧ r ≠ b ∧ r ≠ g ∧ g ≠ b := ⟨h.hd.ne h.ar.ws (by decide), h.hd.ne h.ar.hd (by decide), h.mp.ne h.hd, h.mp.ne h.ar.ws, h.mp.ne h.ar.hd, h.ar.hd.ne h.ar.ws (by decide)⟩
theorem RpW.lt (h : RpW w x b g B fs H) : x < w.heap.size ∧ b < w.heap.size ∧ g < w.heap.size := ⟨h.hd.lt, h.ar.ws.lt, h.ar.hd.lt⟩
theorem RpW.ap (h : RpW w x b g B fs H) : x ≠ b ∧ x ≠ g ∧ g ≠ b ∧ ∀ q, fs.a = some q → q.block ≠ x ∧ q.block ≠ b ∧ q.block ≠ g :=
  ⟨h.hd.ne h.ar.ws (by decide), h.hd.ne h.ar.hd (by decide), h.ar.hd.ne h.ar.ws (by decide), fun q hq => ⟨own_blk_ne h.fo h.hd (by decide) q hq, own_blk_ne h.fo h.ar.ws (by decide) q hq, own_blk_ne h.fo h.ar.hd (by decide) q hq⟩⟩
end
/-- New -/
def newHT (n : Int) (fl : List Int) (zero : Bool) : Option Hp := if 0 ≤ n ∧ n ≤ 65536 ∧ fl.length ≤ 65536 ∧ ∀ m ∈ fl, 0 ≤ m then some ⟨newA n.toNat, fl, zero, false, 0, 0, 0⟩ else none
section
variable {w : World} {l : Sl} {fl : List Int}
theorem newH_spec {n : Int} (h1 : n ≤ 9223372036854775807) (hl : Rd w 1 l (iv fl)) (zero : Bool) :
    Calls Try.prog 10 #[.int .i64 n, .slice l.a l.n l.c, .bool zero] w fun e w' => Ext w w' ∧ ((newHT n fl zero = none ∧ e = .returned (.tuple #[.pointer none, .int .i64 1])) ∨
      ∃ x b g r H, newHT n fl zero = some H ∧ e = .returned (.tuple #[.pointer (some ⟨x, 0, none⟩), .int .i64 0]) ∧ w.heap.size ≤ x ∧ w.heap.size ≤ b ∧ w.heap.size ≤ g ∧ w.heap.size ≤ r ∧ HpW w' x b g r H) := by
  refine vc_10 _ _ _ _ _ ?_
  have ln := hl.leni
  simp only [eq_self, false_or, or_false, true_and, and_true, decide_eq_true_eq, decide_eq_false_iff_not, gd_st, gd_sf, exists_eq_left', exists_eq_left, Option.some.injEq, Sl.eta, Nat.reduceLeDiff, Int.reduceLE, Int.reduceLT, Int.reduceEq, Int.reduceNe, Nat.reduceMul, Nat.reduceAdd, Nat.reduceSub, Int.toNat_natCast, beq_iff_eq, bne_iff_ne, beq_eq_false_iff_ne, bne_eq_false_iff_eq, pick_and, pick_or, Bool.and_eq_true, Bool.or_eq_true, Bool.and_eq_false_iff, Bool.or_eq_false_iff, ne_eq, not_false_eq_true, Bool.not_eq_true', Bool.not_eq_false', reduceCtorEq, Nat.le_refl, Nat.zero_mul, Nat.mul_one, Nat.zero_add, Int.reduceToNat, ones, one, add_mk, Decidable.not_not, cond_true, cond_false, true_implies, false_implies, implies_true, Bool.not_true, Bool.not_false]
  refine ⟨(new_spec h1 w).mono ?_⟩
  rintro e w1 ⟨x1, ⟨hno, rfl⟩ | ⟨k, b, g, hk, hk', rfl, hb, hg, a1⟩⟩
  · refine ⟨_, _, rfl, fun h => (by cases h), fun _ => ⟨x1, .inl ?_⟩⟩
    unfold newHT; rw [if_neg (fun h => hno ⟨h.1, h.2.1⟩)]
  refine ⟨_, _, rfl, fun _ => ⟨fun h2 => ⟨x1, .inl ?_⟩, fun h2 => ?_⟩, fun h => absurd rfl h⟩
  · unfold newHT; rw [if_neg (fun h => by omega)]
  obtain ⟨w2, hr2, n2⟩ := run_makeMap' (P := Try.prog) (w := w1) fm_und .i64 (l.n : Nat)
  have z1 := x1.size; have z2 := n2.size
  refine ⟨_, w2, hr2, by simp [len', wr, splice, rep], by simp [len', wr, splice, rep], fun w3 n3 => ?_⟩
  have z3 := n3.size
  have x13 := n2.ext.trans n3.ext
  have hb1 := a1.ws.lt; have hg1 := a1.hd.lt
  have m3 : MapI w3 w1.heap.size .i64 (fF []) := by rw [← fF_nil]; exact (MapI.new n2).ext n3.ext
  refine ⟨fun i w' => ∃ k' : Nat, i = (k' : Nat) ∧ k' ≤ fl.length ∧ (∀ m ∈ fl.take k', 0 ≤ m) ∧ HpW w' w2.heap.size b g w1.heap.size ⟨newA k, fl.take k', zero, false, 0, 0, 0⟩ ∧ Ext w w', fun i _ => (fl.length - i).toNat,
    ⟨0, rfl, Nat.zero_le _, fun m hm => (by cases hm), ⟨a1.ext x13, Blk.new n3, m3⟩, x1.trans x13⟩, ?_⟩
  rintro _ i w4 ⟨k', rfl, hk4, hpos, H4, x4⟩
  have z4 := x4.size
  have ei : IntKind.i64.wrap ((k' : Int) + 1) = ((k' + 1 : Nat) : Int) := by rw [wrap_i64 (by omega) (by omega)]; omega
  rw [ei]
  refine ⟨fun hlt => ?_, fun hge => ?_⟩
  · obtain ⟨p, y, hp, hy, hc⟩ := (hl.ext x4).intl k' (by omega)
    rw [Nat.mul_one] at hc
    refine ⟨by omega, by omega, p, hp, y, by rw [Int.toNat_natCast]; exact hc, fun hneg => ⟨x4, .inl ?_⟩, fun hneg => ⟨_, H4.hd.cell 1, ?_⟩⟩
    · unfold newHT
      rw [if_neg (fun h => by have := h.2.2.2 y (List.mem_of_getElem? hy); omega)]
    · obtain ⟨w5, hr5, m5, u5⟩ := MapI.put fm_und fm_key H4.mp y (.agg #[])
      rw [fF_snoc, ← take_snoc hy] at m5
      have ap := H4.ap
      refine ⟨w5, hr5, ⟨k' + 1, rfl, by omega, fun m hm => ?_, ⟨H4.ar.upd u5 (by omega) (by omega), H4.hd.upd u5 (by omega), m5⟩, x4.fresh u5 (by rintro i rfl; omega)⟩, by dsimp only; omega⟩
      rw [take_snoc hy] at hm
      rcases List.mem_append.1 hm with hm | hm
      · exact hpos m hm
      · rw [List.mem_singleton.1 hm]; omega
  · rw [List.take_of_length_le (by omega)] at hpos H4
    refine ⟨x4, .inr ⟨_, b, g, w1.heap.size, _, ?_, rfl, by omega, hb, hg, by omega, H4⟩⟩
    unfold newHT
    rw [if_pos ⟨by omega, by omega, by omega, hpos⟩, hk, Int.toNat_natCast]
theorem rnewH_spec {n : Int} (h1 : n ≤ 9223372036854775807) (hl : Rd w 1 l (iv fl)) (zero : Bool) :
    Calls Try.prog 16 #[.int .i64 n, .slice l.a l.n l.c, .bool zero] w fun e w' => Ext w w' ∧ ((newHT n fl zero = none ∧ e = .returned (.tuple #[.pointer none, .int .i64 1])) ∨
      ∃ x b g fs H, newHT n fl zero = some H ∧ e = .returned (.tuple #[.pointer (some ⟨x, 0, none⟩), .int .i64 0]) ∧ w.heap.size ≤ x ∧ w.heap.size ≤ b ∧ w.heap.size ≤ g ∧ RpW w' x b g w.heap.size fs H) := by
  refine vc_16 _ _ _ _ _ ?_
  have ln := hl.leni
  simp only [eq_self, false_or, or_false, true_and, and_true, decide_eq_true_eq, decide_eq_false_iff_not, gd_st, gd_sf, exists_eq_left', exists_eq_left, Option.some.injEq, Sl.eta, Nat.reduceLeDiff, Int.reduceLE, Int.reduceLT, Int.reduceEq, Int.reduceNe, Nat.reduceMul, Nat.reduceAdd, Nat.reduceSub, Int.toNat_natCast, beq_iff_eq, bne_iff_ne, beq_eq_false_iff_ne, bne_eq_false_iff_eq, pick_and, pick_or, Bool.and_eq_true, Bool.or_eq_true, Bool.and_eq_false_iff, Bool.or_eq_false_iff, ne_eq, not_false_eq_true, Bool.not_eq_true', Bool.not_eq_false', reduceCtorEq, Nat.le_refl, Nat.zero_mul, Nat.mul_one, Nat.zero_add, Int.reduceToNat, ones, one, add_mk, Decidable.not_not, cond_true, cond_false, true_implies, false_implies, implies_true, Bool.not_true, Bool.not_false]
  refine ⟨(rnew_spec h1 w).mono ?_⟩
  rintro e w1 ⟨x1, ⟨hno, rfl⟩ | ⟨k, b, g, hk, hk', rfl, hb, hg, a1⟩⟩
  · refine ⟨_, _, rfl, fun h => (by cases h), fun _ => ⟨x1, .inl ?_⟩⟩
    unfold newHT; rw [if_neg (fun h => hno ⟨h.1, h.2.1⟩)]
  refine ⟨_, _, rfl, fun _ => ⟨fun h2 => ⟨x1, .inl ?_⟩, fun h2 => ?_⟩, fun h => absurd rfl h⟩
  · unfold newHT; rw [if_neg (fun h => by omega)]
  refine ⟨fun i w' => ∃ k' : Nat, i = (k' : Nat) ∧ k' ≤ fl.length ∧ (∀ m ∈ fl.take k', 0 ≤ m) ∧ w' = w1, fun i _ => (fl.length - i).toNat,
    ⟨0, rfl, Nat.zero_le _, fun m hm => (by cases hm), rfl⟩, ?_⟩
  rintro _ i w2 ⟨k', rfl, hk4, hpos, rfl⟩
  have ei : IntKind.i64.wrap ((k' : Int) + 1) = ((k' + 1 : Nat) : Int) := by rw [wrap_i64 (by omega) (by omega)]; omega
  rw [ei]
  refine ⟨fun hlt => ?_, fun hge => ?_⟩
  · obtain ⟨p, y, hp, hy, hc⟩ := (hl.ext x1).intl k' (by omega)
    rw [Nat.mul_one] at hc
    refine ⟨by omega, by omega, p, hp, y, by rw [Int.toNat_natCast]; exact hc, fun hneg => ⟨x1, .inl ?_⟩, fun hneg => ⟨⟨k' + 1, rfl, by omega, fun m hm => ?_, rfl⟩, by dsimp only; omega⟩⟩
    · unfold newHT
      rw [if_neg (fun h => by have := h.2.2.2 y (List.mem_of_getElem? hy); omega)]
    · rw [take_snoc hy] at hm
      rcases List.mem_append.1 hm with hm | hm
      · exact hpos m hm
      · rw [List.mem_singleton.1 hm]; omega
  · rw [List.take_of_length_le (by omega)] at hpos
    intro w3 n3
    have z1 := x1.size; have z3 := n3.size
    have o3 : Own w3 w2.heap.size 3 1 ⟨some ⟨w2.heap.size, 0, none⟩, 0, 0⟩ (iv []) := Own.lit (z := 1) (n := 0) (cs := []) n3 (Nat.le_refl _) rfl (by decide)
    obtain ⟨s, w4, hr4, hn4, o4, u4, c4⟩ := o3.append (t := 22) (ty := 22) tab_ok (by rfl) (by rfl) (by decide) (hl.ext (x1.trans n3.ext)) (iv_ones _) (by dsimp only; omega) (by dsimp only; omega) (by omega)
    have x24 : Ext w2 w4 := n3.ext.fresh u4 (by rintro i ⟨q, hq, rfl⟩; exact (o3.base q hq).1)
    refine ⟨s, w4, hr4, by simp [len', wr, splice, rep], by simp [len', wr, splice, rep], fun w5 n5 => ?_⟩
    have z4 := x24.size
    refine ⟨(x1.trans x24).trans n5.ext, .inr ⟨_, b, g, s, ⟨newA k, fl, zero, false, 0, 0, 0⟩, ?_, rfl, by omega, hb, hg, ⟨a1.ext (x24.trans n5.ext), Blk.new n5, (o4.ext n5.ext).mono (by omega)⟩⟩⟩
    unfold newHT
    rw [if_pos ⟨by omega, by omega, by omega, hpos⟩, hk, Int.toNat_natCast]
end
end Go.Proofs.Ytggpomialmpgoaa.V
