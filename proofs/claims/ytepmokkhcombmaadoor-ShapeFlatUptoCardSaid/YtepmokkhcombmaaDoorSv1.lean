/-
  Rows, cells and objects as they are told: what is told of them, no program in sight. Bytes in memory.
-/
import Derived.Test.YtepmokkhcombmaaDoorShelf
import Derived.Test.YtepmokkhcombmaaDoorText
import Derived.Test.YtepmokkhcombmaaDoorMaps
import Derived.Test.YtepmokkhcombmaaDoorClr
import Derived.Lib.AppendStr
import Derived.Test.YtepmokkhcombmaaDoorVcA
namespace Go.Proofs.YtepmokkhcombmaaDoor.V
open Go Go.RowKit
set_option linter.unusedVariables false
set_option linter.unusedSimpArgs false
set_option linter.unusedSectionVars false
set_option maxRecDepth 100000

theorem dd_small {u : Nat} (h : u < 10) : Lib.decDigits u = [UInt8.ofNat (48 + u)] := by rw [Lib.decDigits, dif_pos h]
theorem dd_big {u : Nat} (h : ¬ u < 10) : Lib.decDigits u = Lib.decDigits (u / 10) ++ [UInt8.ofNat (48 + u % 10)] := by rw [Lib.decDigits, dif_neg h]
theorem dd_len (u : Nat) : ∀ k, u < 10 ^ (k + 1) → (Lib.decDigits u).length ≤ k + 1 := by
  induction u using Nat.strongRecOn with
  | ind u ih =>
    intro k hk
    by_cases h : u < 10
    · rw [dd_small h]; simp
    · rw [dd_big h, List.length_append]
      cases k with
      | zero => rw [Nat.pow_one] at hk; exact absurd hk h
      | succ k =>
        have := ih (u / 10) (by omega) k (by rw [Nat.pow_succ] at hk; omega)
        simp only [List.length_singleton]; omega
theorem itoa_len {n : Int} (h0 : -9223372036854775808 ≤ n) (h1 : n ≤ 9223372036854775807) : (Lib.itoa n).length ≤ 21 := by
  have hd := dd_len n.natAbs 19 (by omega)
  unfold Lib.itoa
  split
  · simp only [List.length_cons]; omega
  · rw [show n.toNat = n.natAbs by omega]; omega
def mkB (l : List UInt8) : ByteArray := ⟨l.toArray⟩
theorem mkB_append (a b : List UInt8) : mkB a ++ mkB b = mkB (a ++ b) := by
  apply ByteArray.ext
  rw [ByteArray.data_append]
  unfold mkB
  simp
theorem mkB_size (a : List UInt8) : (mkB a).size = a.length := by simp [mkB, ByteArray.size]
theorem mkB_data (b : ByteArray) : mkB b.data.toList = b := by unfold mkB; simp
theorem take_snoc {α : Type} {l : List α} {k : Nat} {y : α} (h : l[k]? = some y) : l.take (k + 1) = l.take k ++ [y] := by
  rw [List.take_add_one, h]; rfl
theorem drop_cons {α : Type} {l : List α} {k : Nat} {y : α} (h : l[k]? = some y) : l.drop k = y :: l.drop (k + 1) := by
  obtain ⟨hk, e⟩ := List.getElem?_eq_some_iff.1 h
  rw [← e]; exact List.drop_eq_getElem_cons hk

/-! ### what is told -/
structure Cl where
  ref : Bool
  id : Nat
  text : List UInt8
structure Rp where
  fn : Int
  pl : Int
  loc : List Cl
  stk : List Cl
structure Ob where
  lab : List UInt8
  cells : List Cl
def numT (m : List Nat) (id : Nat) : Nat × List Nat := if id ∈ m then (m.idxOf id + 1, m) else if m.length = 65536 then (0, m) else (m.length + 1, m ++ [id])
def cellT (m : List Nat) (c : Cl) : List UInt8 × List Nat :=
  if c.ref = false then (if c.text = [] then [45] else c.text, m)
  else if c.id = 0 then ([110, 111, 110, 101], m)
  else (if (numT m c.id).1 = 0 then [35, 63] else 35 :: Lib.itoa ((numT m c.id).1 : Nat), (numT m c.id).2)
def cellsT : List Nat → List Cl → List UInt8 × List Nat
  | m, [] => ([], m)
  | m, c :: l => (32 :: ((cellT m c).1 ++ (cellsT (cellT m c).2 l).1), (cellsT (cellT m c).2 l).2)
def rowT (m : List Nat) (r : Rp) : List UInt8 × List Nat :=
  (Lib.itoa r.fn ++ ([46] ++ (Lib.itoa r.pl ++ ((cellsT m r.loc).1 ++ ([32, 124] ++ ((cellsT (cellsT m r.loc).2 r.stk).1 ++ [10]))))), (cellsT (cellsT m r.loc).2 r.stk).2)
def rowsT : List Nat → List Rp → List UInt8 × List Nat
  | m, [] => ([], m)
  | m, r :: l => ((rowT m r).1 ++ (rowsT (rowT m r).2 l).1, (rowsT (rowT m r).2 l).2)
def objT (m : List Nat) (n : Nat) (x : Ob) : List UInt8 × List Nat :=
  ([35] ++ (Lib.itoa (n : Nat) ++ ([32] ++ (x.lab ++ ([58] ++ ((cellsT m x.cells).1 ++ [10]))))), (cellsT m x.cells).2)
def objsT (of_ : Nat → Ob) : Nat → Nat → List Nat → List UInt8 × List Nat
  | 0, _, m => ([], m)
  | f + 1, i, m => match m[i]? with
    | none => ([], m)
    | some id => ((objT m (i + 1) (of_ id)).1 ++ (objsT of_ f (i + 1) (objT m (i + 1) (of_ id)).2).1, (objsT of_ f (i + 1) (objT m (i + 1) (of_ id)).2).2)
def seenT (of_ : Nat → Ob) (rows : List Rp) : List UInt8 × List Nat :=
  ((rowsT [] rows).1 ++ (objsT of_ 65536 0 (rowsT [] rows).2).1, (objsT of_ 65536 0 (rowsT [] rows).2).2)
/-- numbers that were given -/
structure Gd (m : List Nat) : Prop where
  nd : m.Nodup
  len : m.length ≤ 65536
  lt : ∀ x ∈ m, x < 18446744073709551616
def Okc (l : List Cl) : Prop := ∀ c ∈ l, c.id < 18446744073709551616
def cellB (c : Cl) : Nat := c.text.length + 32
def cellsB (l : List Cl) : Nat := (l.map cellB).sum
def rowB (r : Rp) : Nat := 64 + (cellsB r.loc + cellsB r.stk)
def rowsB (l : List Rp) : Nat := (l.map rowB).sum
def obB (x : Ob) : Nat := 64 + (x.lab.length + cellsB x.cells)
def Okr (l : List Rp) : Prop := ∀ r ∈ l, Okc r.loc ∧ Okc r.stk ∧ (-9223372036854775808 ≤ r.fn ∧ r.fn ≤ 9223372036854775807) ∧ (-9223372036854775808 ≤ r.pl ∧ r.pl ≤ 9223372036854775807)
section
variable {m : List Nat} {id i n f : Nat} {c : Cl} {l : List Cl} {r : Rp} {rs : List Rp} {x : Ob} {of_ : Nat → Ob}
theorem Gd.nil : Gd [] := ⟨.nil, by decide, fun _ h => by cases h⟩
theorem numT_gd (h : Gd m) (hi : id < 18446744073709551616) : Gd (numT m id).2 ∧ (numT m id).1 ≤ 65536 := by
  unfold numT
  have := h.len
  split
  · rename_i hm
    have := List.idxOf_lt_length_of_mem hm
    exact ⟨h, by dsimp only; omega⟩
  · split
    · exact ⟨h, Nat.zero_le _⟩
    · rename_i hm hl
      refine ⟨⟨?_, by rw [List.length_append, List.length_singleton]; omega, fun y hy => ?_⟩, by dsimp only; omega⟩
      · rw [List.nodup_append]
        exact ⟨h.nd, by simp, fun a ha b hb e => by simp at hb; subst hb; subst e; exact hm ha⟩
      · rw [List.mem_append, List.mem_singleton] at hy
        rcases hy with hy | rfl
        · exact h.lt y hy
        · exact hi
theorem cellT_gd (h : Gd m) (hi : c.id < 18446744073709551616) : Gd (cellT m c).2 ∧ (cellT m c).1.length + 1 ≤ cellB c := by
  unfold cellT cellB
  split
  · refine ⟨h, ?_⟩
    dsimp only
    split
    · simp
    · omega
  · split
    · exact ⟨h, by simp⟩
    · obtain ⟨h1, h2⟩ := numT_gd h hi
      refine ⟨h1, ?_⟩
      dsimp only
      split
      · simp
      · have := itoa_len (n := ((numT m c.id).1 : Nat)) (by omega) (by omega)
        simp only [List.length_cons]; omega
theorem cellsT_gd : ∀ {l : List Cl} {m : List Nat}, Gd m → Okc l → Gd (cellsT m l).2 ∧ (cellsT m l).1.length ≤ cellsB l
  | [], m, h, _ => ⟨h, Nat.zero_le _⟩
  | c :: l, m, h, hl => by
    obtain ⟨h1, h2⟩ := cellT_gd h (hl c (by simp))
    obtain ⟨h3, h4⟩ := cellsT_gd (l := l) h1 fun y hy => hl y (List.mem_cons_of_mem _ hy)
    refine ⟨h3, ?_⟩
    rw [cellsT]
    unfold cellsB at h4 ⊢
    simp only [List.length_cons, List.length_append, List.map_cons, List.sum_cons]
    omega
theorem rowT_gd (h : Gd m) (hr : Okc r.loc ∧ Okc r.stk ∧ (-9223372036854775808 ≤ r.fn ∧ r.fn ≤ 9223372036854775807) ∧ (-9223372036854775808 ≤ r.pl ∧ r.pl ≤ 9223372036854775807)) : Gd (rowT m r).2 ∧ (rowT m r).1.length ≤ rowB r := by
  obtain ⟨h1, h2⟩ := cellsT_gd h hr.1
  obtain ⟨h3, h4⟩ := cellsT_gd h1 hr.2.1
  have a1 := itoa_len hr.2.2.1.1 hr.2.2.1.2
  have a2 := itoa_len hr.2.2.2.1 hr.2.2.2.2
  refine ⟨h3, ?_⟩
  unfold rowT rowB
  simp only [List.length_append, List.length_cons, List.length_nil]
  omega
theorem rowsT_gd : ∀ {l : List Rp} {m : List Nat}, Gd m → Okr l → Gd (rowsT m l).2 ∧ (rowsT m l).1.length ≤ rowsB l
  | [], m, h, _ => ⟨h, Nat.zero_le _⟩
  | c :: l, m, h, hl => by
    obtain ⟨h1, h2⟩ := rowT_gd h (hl c (by simp))
    obtain ⟨h3, h4⟩ := rowsT_gd (l := l) h1 fun y hy => hl y (List.mem_cons_of_mem _ hy)
    refine ⟨h3, ?_⟩
    rw [rowsT]
    unfold rowsB at h4 ⊢
    simp only [List.length_append, List.map_cons, List.sum_cons]
    omega
theorem objT_gd (h : Gd m) (hn : n ≤ 65536) (hx : Okc x.cells) : Gd (objT m n x).2 ∧ (objT m n x).1.length ≤ obB x := by
  obtain ⟨h1, h2⟩ := cellsT_gd h hx
  have a1 := itoa_len (n := (n : Nat)) (by omega) (by omega)
  refine ⟨h1, ?_⟩
  unfold objT obB
  simp only [List.length_append, List.length_cons, List.length_nil]
  omega
theorem objsT_end (h : m.length ≤ i) : objsT of_ f i m = ([], m) := by
  cases f with
  | zero => rfl
  | succ f => unfold objsT; rw [List.getElem?_eq_none h]
theorem objsT_step (h : m[i]? = some id) : objsT of_ (f + 1) i m = ((objT m (i + 1) (of_ id)).1 ++ (objsT of_ f (i + 1) (objT m (i + 1) (of_ id)).2).1, (objsT of_ f (i + 1) (objT m (i + 1) (of_ id)).2).2) := by
  rw [objsT, h]
end

/-! ### bytes in memory -/
def tv (l : List UInt8) : List Value := Lib.byteCells l
@[simp] theorem tv_length (l : List UInt8) : (tv l).length = l.length := by simp [tv, Lib.byteCells]
theorem tv_append (a b : List UInt8) : tv (a ++ b) = tv a ++ tv b := by simp [tv, Lib.byteCells]
theorem tv_ones (l : List UInt8) : ∀ v ∈ tv l, one v := by
  intro v hv
  unfold tv Lib.byteCells at hv
  obtain ⟨b, _, rfl⟩ := List.mem_map.1 hv
  trivial
theorem tv_str (l : List UInt8) : Lib.strCells (mkB l) = tv l := by unfold Lib.strCells mkB tv Lib.byteCells; simp
theorem tv_bv (l : List UInt8) : tv l = bv (l.map UInt8.toNat) := by
  unfold tv Lib.byteCells bv
  rw [List.map_map]
  rfl
theorem strOf_map (l : List UInt8) : strOf (l.map UInt8.toNat) = mkB l := by
  unfold strOf mkB
  rw [List.map_map]
  congr 2
  conv => rhs; rw [← List.map_id l]
  refine List.map_congr_left fun b _ => ?_
  simp
def BytB (w : World) (k : Nat) : Prop := ∃ c fz, w.heap[k]? = some (.cells c 5 fz)
theorem BytB.of {w : World} {k : Nat} {cs : List Value} (h : Blk w k 5 cs) : BytB w k := ⟨_, _, h⟩
theorem Blk.noByt {w : World} {k T : Nat} {cs : List Value} (h : Blk w k T cs) (hT : T ≠ 5) : ¬ BytB w k := by
  rintro ⟨c, fz, hh⟩
  unfold Blk at h
  rw [h] at hh
  injection hh with hh
  injection hh with _ h1
  exact hT h1
theorem MapI.noByt {w : World} {r : Nat} {k : IntKind} {f : Int → Option Value} (h : MapI w r k f) : ¬ BytB w r := by
  rintro ⟨c, fz, hh⟩
  obtain ⟨es, clock, h1, _⟩ := h
  rw [h1] at hh
  injection hh with hh
  cases hh
theorem MapI.ne {w : World} {r g T : Nat} {k : IntKind} {f : Int → Option Value} {cs : List Value} (h : MapI w r k f) (hb : Blk w g T cs) : r ≠ g := by
  rintro rfl
  obtain ⟨es, clock, hh, _⟩ := h
  unfold Blk at hb
  rw [hb] at hh
  injection hh with hh
  cases hh
theorem MapI.ext {w w' : World} {r : Nat} {k : IntKind} {f : Int → Option Value} (h : MapI w r k f) (u : Ext w w') : MapI w' r k f := h.upd u not_false
open Go.MapKept in
theorem MapI.look2 {P : Program} {w : World} {mty kt et r : Nat} {k : IntKind} {f : Int → Option Value} (hm : P.underlying mty = some (.map kt et)) (hd : P.underlying kt = some (.int k)) {z : Value} (hz : (zeroValue et).run P w = .ok z w) (h : MapI w r k f) (n : Int) :
    Runs P (Instr.lookup mty (.map (some r)) (.int k n) true) w (.tuple #[(f n).getD z, .bool (f n).isSome]) w := by
  obtain ⟨es, clock, hb, h1, h2, h3⟩ := h
  have hks : ∀ x ∈ es.toList, IsKey (.int k) x.key := fun x hx => by obtain ⟨n, hn⟩ := h2 x hx; rw [hn]; simp [IsKey]
  have hk : IsKey (.int k) (.int k n) := by simp [IsKey]
  unfold Runs
  rcases findNow_spec hk es.toList 0 hks with ⟨e1, e2⟩ | ⟨j, e, e1, e2, e3⟩
  · have hn : f n = none := by
      cases hf : f n with
      | none => rfl
      | some v =>
        obtain ⟨e, he, hke, _⟩ := (h3 n v).1 hf
        exact (e2 e he hke).elim
    rw [hn]
    simp [Instr.lookup, run_underlying hm, Go.MapKept.run_getObj_map hb, run_checkKey hd hk, run_findKey hd e1, hz, Result.andThen]
  · have hn : f n = some e.val := (h3 n _).2 ⟨e, List.mem_of_getElem? e2, e3, rfl⟩
    rw [hn]
    simp [Instr.lookup, run_underlying hm, Go.MapKept.run_getObj_map hb, run_checkKey hd hk, run_findKey hd e1, Result.andThen]
section
variable {w w' : World} {B : Nat} {s : Sl} {l : List UInt8}
theorem Rd.str (h : Rd w 1 s (tv l)) : Runs Tryd.prog (convert 59 9 (.slice s.a s.n s.c)) w (.string (mkB l)) w := by
  rw [tv_bv] at h
  have := h.text tab_ok (t := 59) (e := 5) (d := 9) rfl rfl rfl
  rwa [strOf_map] at this
theorem own_form {e z n : Nat} {v : Value} {xs : List Value} (h : w.ownsRow B e z v n xs) : ∃ r : Sl, v = .slice r.a r.n r.c ∧ r.n = n ∧ Own w B e z r xs := by
  rcases h.2 with ⟨rfl, h0⟩ | ⟨g, cap, cur, rfl, _⟩
  · subst h0; exact ⟨⟨none, 0, 0⟩, rfl, rfl, h⟩
  · exact ⟨⟨_, _, cap⟩, rfl, rfl, h⟩
theorem u8_zero : (Tryd.prog.info? 5).bind (·.zero) = some (.int .u8 0) := by kernel_rfl
theorem Own.appS (h : Own w B 5 1 s (tv l)) (t : List UInt8) (hb : s.n + t.length ≤ 140737488355328) (hB : B ≤ w.heap.size) :
    ∃ (r : Sl) (w' : World), Runs Tryd.prog (Builtin.append_ #[59, 9] 59 #[.slice s.a s.n s.c, .string (mkB t)]) w (.slice r.a r.n r.c) w' ∧ r.n = s.n + t.length ∧ Own w' B 5 1 r (tv (l ++ t)) ∧ Upd (fun k => ∃ p, s.a = some p ∧ k = p.block) w w' := by
  obtain ⟨i, hi, hi1, hi2, hi3, zv, hz1, hz2⟩ := tab_ok.siz 5 1 1 [.int .u8 0] rfl
  have hz0 := u8_zero
  rw [hi] at hz0
  obtain ⟨v', w', hr, ho, hg, _⟩ := Lib.run_append_own_string (P := Tryd.prog) w B 59 9 59 5 i (tab_ok.slice (by rfl)) (tab_ok.string (by rfl)) hi hz0 hi1 hi2 s.val s.n (tv l) h (mkB t) (by rw [mkB_size]; unfold maxLen; simp; omega) (by rw [mkB_size]; exact hb) hB
  rw [tv_str, mkB_size] at ho
  rw [← tv_append] at ho
  obtain ⟨r, rfl, hrn, hown⟩ := own_form ho
  refine ⟨r, w', hr, hrn, hown, (Upd.of_grown hg).mono fun k hk hn he => ?_⟩
  cases ha : s.a with
  | none => rw [show s.val.ownBlock = none by simp [Sl.val, ha, Value.ownBlock]] at he; cases he
  | some p =>
    rw [show s.val.ownBlock = some p.block by simp [Sl.val, ha, Value.ownBlock]] at he
    injection he with he
    exact hn ⟨p, ha, he.symm⟩
abbrev TB (B : Nat) (w : World) : Prop := Lib.TabBelow Tryd.prog B w "internal/strconv.uint64pow10" .u64 Lib.pow10Tab
theorem TB.on {w w' : World} (h : TB B w) (u : Upd (fun k => B ≤ k) w w') (hB : B ≤ w.heap.size) : TB B w' :=
  Lib.TabBelow.on h ⟨u.os, u.tape, u.output, u.size, fun k hk => u.block k (by omega) (by omega)⟩
theorem appi_spec (h : Own w B 5 1 s (tv l)) (hB : B ≤ w.heap.size) {i : Int} (h0 : -9223372036854775808 ≤ i) (h1 : i ≤ 9223372036854775807) (hm : s.n + 21 ≤ 140737488355328) (hT : TB B w) :
    Calls Tryd.prog 19 #[.slice s.a s.n s.c, .int .i64 i, .int .i64 10] w fun e w' => ∃ r : Sl, e = .returned (.slice r.a r.n r.c) ∧ Own w' B 5 1 r (tv (l ++ Lib.itoa i)) ∧ Upd (fun k => B ≤ k ∧ BytB w k) w w' := by
  refine (Tryd.strconv_AppendInt_10 B s.n i h0 h1 s.val (tv l) w h hB hm hT).mono ?_
  rintro e w' ⟨v', rfl, ho, hb, ok⟩
  obtain ⟨r, rfl, hrn, hown⟩ := own_form ho
  refine ⟨r, rfl, by rw [tv_append]; exact hown, hb.os, hb.tape, hb.output, hb.size, fun k hk hn => ?_⟩
  rcases Nat.lt_or_ge k B with hkB | hkB
  · exact hb.block k hkB
  · obtain ⟨o, ho⟩ : ∃ o, w.heap[k]? = some o := ⟨_, Array.getElem?_eq_getElem hk⟩
    rw [ho]
    refine ok k o ho (by simp) fun c fz e => hn ⟨hkB, c, fz, ?_⟩
    rw [ho, e]
end
end Go.Proofs.YtepmokkhcombmaaDoor.V
