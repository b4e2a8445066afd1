/-
  Maps whose keys are pairs of whole numbers, whose values are pairs of numbers: looked up, set, ranged over.
-/
import Derived.Test.YtihnjjmbcbfheaaDoorRo1
import Derived.MapKept
import Derived.MapFrom
import Derived.Maps.RangeRun
namespace Go.Proofs.YtihnjjmbcbfheaaDoor.V
open Go Go.RowKit Go.MapKept
open Go.ChangeMaps (setBlock)
set_option linter.unusedVariables false
set_option linter.unusedSimpArgs false
set_option linter.unusedSectionVars false
set_option maxRecDepth 100000

abbrev kk (a b : Int) : Value := .agg #[.int .i64 a, .int .i64 b]
abbrev vv (p : Nat × Nat) : Value := .agg #[.int .u64 (p.1 : Nat), .int .u64 (p.2 : Nat)]
theorem kk_inj {a b c d : Int} (h : kk a b = kk c d) : a = c ∧ b = d := by
  injection h with h
  have h := congrArg Array.toList h
  simpa using h
theorem vv_inj {p q : Nat × Nat} (h : vv p = vv q) : p = q := by
  injection h with h
  have h := congrArg Array.toList h
  simp at h
  exact Prod.ext (by have := h.1; omega) (by have := h.2; omega)
section
variable {w w' : World}
theorem kk_check (em : Bool) (a b : Int) (w : World) : (Instr.checkKey em 10000 85 (kk a b)).run Tryd.prog w = .ok () w := by kernel_rfl
theorem kk_equal (a b c d : Int) (w : World) : (Op.equal 85 (kk a b) (kk c d)).run Tryd.prog w = .ok (a == c && b == d) w := by
  obtain ⟨r, hr, _, h⟩ := eqA_sound tab_ok 85 #[.int .i64 a, .int .i64 b] #[.int .i64 c, .int .i64 d] (fun r => r = (a == c && b == d)) (by
    show eqA tab _ _ _ _
    unfold eqA
    simp [eqFs, nth, tab, isIn, lk, tabE, tabU])
  subst hr
  exact h w
theorem kk_stays (a b : Int) (w : World) : (Instr.keyThatStays (kk a b) (kk a b)).run Tryd.prog w = .ok (kk a b) w := by
  simp [Instr.keyThatStays, Instr.sameBits]
theorem kk_und : Tryd.prog.underlying 49 = some (.map 85 44) := tab_ok.map (by rfl)
theorem kk_strct : ∃ fs, Tryd.prog.underlying 85 = some (.struct fs) := (tab_ok.struct (t := 85) (by rfl)).imp fun _ h => h.1
def KeyS (es : List MapEntry) : Prop := ∀ x ∈ es, ∃ a b p, x.key = kk a b ∧ x.val = vv p
theorem find_asking (a b : Int) (w : World) : ∀ (l : List MapEntry) (i : Nat), KeyS l →
    ((Instr.findAsking 85 (kk a b) l i).run Tryd.prog w = .ok none w ∧ ∀ x ∈ l, x.key ≠ kk a b) ∨ ∃ j e, (Instr.findAsking 85 (kk a b) l i).run Tryd.prog w = .ok (some (i + j, e.val)) w ∧ l[j]? = some e ∧ e.key = kk a b
  | [], i, _ => .inl ⟨by simp [Instr.findAsking], fun x h => by cases h⟩
  | e :: l, i, h => by
    obtain ⟨c, d, p, hk, hv⟩ := h e (by simp)
    have heq := kk_equal a b c d w
    by_cases hcd : a = c ∧ b = d
    · obtain ⟨rfl, rfl⟩ := hcd
      refine .inr ⟨0, e, ?_, rfl, hk⟩
      simp [Instr.findAsking, hk, heq, Result.andThen]
    · have hf : (a == c && b == d) = false := by
        rw [Bool.and_eq_false_iff, beq_eq_false_iff_ne, beq_eq_false_iff_ne]
        omega
      rw [hf] at heq
      have step : (Instr.findAsking 85 (kk a b) (e :: l) i).run Tryd.prog w = (Instr.findAsking 85 (kk a b) l (i + 1)).run Tryd.prog w := by
        simp [Instr.findAsking, hk, heq, Result.andThen]
      rw [step]
      rcases find_asking a b w l (i + 1) (fun x hx => h x (by simp [hx])) with ⟨h1, h2⟩ | ⟨j, e', h1, h2, h3⟩
      · refine .inl ⟨h1, fun x hx => ?_⟩
        rcases List.mem_cons.1 hx with rfl | hx
        · rw [hk]; intro e; have := kk_inj e; exact hcd ⟨this.1.symm, this.2.symm⟩
        · exact h2 x hx
      · exact .inr ⟨j + 1, e', by rw [h1]; congr 3; omega, h2, h3⟩
theorem find_key (a b : Int) (w : World) (l : List MapEntry) (h : KeyS l) :
    ((Instr.findKey 85 (kk a b) l).run Tryd.prog w = .ok none w ∧ ∀ x ∈ l, x.key ≠ kk a b) ∨ ∃ j e, (Instr.findKey 85 (kk a b) l).run Tryd.prog w = .ok (some (j, e.val)) w ∧ l[j]? = some e ∧ e.key = kk a b := by
  obtain ⟨fs, hfs⟩ := kk_strct
  cases l with
  | nil => exact .inl ⟨by simp [Instr.findKey, run_underlying hfs, Result.andThen, Instr.findNow], fun x h => by cases h⟩
  | cons e l =>
    have hn : Instr.findNow (.struct fs) (kk a b) (e :: l) 0 = none := by simp [Instr.findNow, Instr.sameNow]
    have hr : (Instr.findKey 85 (kk a b) (e :: l)).run Tryd.prog w = (Instr.findAsking 85 (kk a b) (e :: l) 0).run Tryd.prog w := by
      simp [Instr.findKey, run_underlying hfs, Result.andThen, hn]
    rw [hr]
    rcases find_asking a b w (e :: l) 0 h with h1 | ⟨j, e', h1, h2⟩
    · exact .inl h1
    · exact .inr ⟨j, e', by rw [h1, Nat.zero_add], h2⟩
abbrev FS := Int → Int → Option (Nat × Nat)
/-- what stands in a map -/
def EntS (es : Array MapEntry) (clock : Nat) (f : FS) : Prop := Stamped es clock ∧ KeyS es.toList ∧ ∀ a b p, f a b = some p ↔ ∃ e ∈ es.toList, e.key = kk a b ∧ e.val = vv p
/-- a map in memory -/
def MapS (w : World) (r : Nat) (f : FS) : Prop := ∃ es clock, w.heap[r]? = some (.map es clock) ∧ EntS es clock f
variable {r b : Nat} {f : FS} {S : Nat → Prop}
theorem MapS.upd (h : MapS w r f) (u : Upd S w w') (hS : ¬ S r) : MapS w' r f := by
  obtain ⟨es, clock, hb, h1⟩ := h
  have hlt : r < w.heap.size := (Array.getElem?_eq_some_iff.1 hb).1
  exact ⟨es, clock, by rw [u.block r hlt hS]; exact hb, h1⟩
theorem MapS.ext (h : MapS w r f) (u : Ext w w') : MapS w' r f := h.upd u not_false
theorem MapS.lt (h : MapS w r f) : r < w.heap.size := by
  obtain ⟨es, clock, hb, _⟩ := h
  exact (Array.getElem?_eq_some_iff.1 hb).1
theorem MapS.ne {g T : Nat} {cs : List Value} (h : MapS w r f) (hb : Blk w g T cs) : g ≠ r := by
  rintro rfl
  obtain ⟨es, clock, hb', _⟩ := h
  unfold Blk at hb
  rw [hb'] at hb
  cases hb
theorem MapS.new (n : NewW w (.map #[] 0) w') : MapS w' w.heap.size fun _ _ => none :=
  ⟨#[], 0, n.new, stamped_empty 0, fun x hx => by simp at hx, by simp⟩
theorem run_makeMapS {mty : Nat} : ∃ w', Runs Tryd.prog (Instr.makeMap mty none) w (.map (some w.heap.size)) w' ∧ NewW w (.map #[] 0) w' :=
  ⟨w.alloc (.map #[] 0), by simp [Runs, Instr.makeMap], rfl⟩
theorem EntS.at_ {es : Array MapEntry} {clock : Nat} (h : EntS es clock f) {e : MapEntry} (he : e ∈ es.toList) {a c : Int} (hk : e.key = kk a c) : ∃ p, f a c = some p ∧ e.val = vv p := by
  obtain ⟨a', c', p, hk', hv⟩ := h.2.1 e he
  exact ⟨p, (h.2.2 a c p).2 ⟨e, he, hk, hv⟩, hv⟩
theorem vv_zero : (zeroValue 44).run Tryd.prog w = .ok (vv (0, 0)) w := by kernel_rfl
theorem MapS.look (h : MapS w r f) (a c : Int) (ok : Bool) :
    Runs Tryd.prog (Instr.lookup 49 (.map (some r)) (kk a c) ok) w (if ok then .tuple #[vv ((f a c).getD (0, 0)), .bool (f a c).isSome] else vv ((f a c).getD (0, 0))) w := by
  obtain ⟨es, clock, hb, h⟩ := h
  unfold Runs
  rcases find_key a c w es.toList h.2.1 with ⟨e1, e2⟩ | ⟨j, e, e1, e2, e3⟩
  · have hn : f a c = none := by
      cases hf : f a c with
      | none => rfl
      | some v =>
        obtain ⟨e, he, hke, _⟩ := (h.2.2 a c v).1 hf
        exact (e2 e he hke).elim
    rw [hn]
    cases ok <;> simp [Instr.lookup, run_underlying kk_und, Go.MapKept.run_getObj_map hb, kk_check, e1, vv_zero, Result.andThen]
  · obtain ⟨p, hp, hv⟩ := h.at_ (List.mem_of_getElem? e2) e3
    rw [hp]
    cases ok <;> simp [Instr.lookup, run_underlying kk_und, Go.MapKept.run_getObj_map hb, kk_check, e1, hv, Result.andThen]
theorem MapS.put (h : MapS w r f) (a c : Int) (p : Nat × Nat) :
    ∃ w', (Instr.mapUpdate 49 (.map (some r)) (kk a c) (vv p)).run Tryd.prog w = .ok () w' ∧ MapS w' r (fun x y => if x = a ∧ y = c then some p else f x y) ∧ Upd (fun i => i = r) w w' := by
  obtain ⟨es, clock, hb, h1, h2, h3⟩ := h
  have hlt : r < w.heap.size := (Array.getElem?_eq_some_iff.1 hb).1
  have up : ∀ o : Obj, Upd (fun i => i = r) w { w with heap := w.heap.setIfInBounds r o } := fun o =>
    ⟨rfl, rfl, rfl, by simp, fun i hi hn => (heap_set hb).2 i hn⟩
  rcases find_key a c w es.toList h2 with ⟨e1, e2⟩ | ⟨j, e, e1, e2, e3⟩
  · refine ⟨_, by simp [Instr.mapUpdate, run_underlying kk_und, Go.MapKept.run_getObj_map hb, kk_check, e1, run_setObj_map _ hb, Result.andThen]; rfl, ⟨_, _, (heap_set hb).1, stamped_push h1 e2, ?_, ?_⟩, up _⟩
    · intro x hx
      simp only [Array.toList_push, List.mem_append, List.mem_singleton] at hx
      rcases hx with hx | rfl
      · exact h2 x hx
      · exact ⟨a, c, p, rfl, rfl⟩
    · intro x y q
      simp only [Array.toList_push, List.mem_append, List.mem_singleton]
      constructor
      · intro hh
        by_cases hxy : x = a ∧ y = c
        · obtain ⟨rfl, rfl⟩ := hxy
          rw [if_pos ⟨rfl, rfl⟩] at hh
          injection hh with hh
          exact ⟨_, .inr rfl, rfl, by rw [hh]⟩
        · rw [if_neg hxy] at hh
          obtain ⟨e, he, h5, h6⟩ := (h3 x y q).1 hh
          exact ⟨e, .inl he, h5, h6⟩
      · rintro ⟨e, he | rfl, h5, h6⟩
        · have hxy : ¬ (x = a ∧ y = c) := by rintro ⟨rfl, rfl⟩; exact e2 e he h5
          rw [if_neg hxy]
          exact (h3 x y q).2 ⟨e, he, h5, h6⟩
        · obtain ⟨h7, h8⟩ := kk_inj h5
          rw [if_pos ⟨h7.symm, h8.symm⟩, vv_inj h6]
  · have hj : es[j]? = some e := by simpa using e2
    have hkey : ∀ e', es[j]? = some e' → ({ e' with key := kk a c, val := vv p } : MapEntry).key = e'.key := fun e' he' => by rw [hj] at he'; cases he'; exact e3.symm
    let F : MapEntry → MapEntry := fun e => { e with key := kk a c, val := vv p }
    refine ⟨{ w with heap := w.heap.setIfInBounds r (.map (es.modify j F) clock) }, ?_, ⟨es.modify j F, clock, (heap_set hb).1, stamped_modify h1 j F (fun _ _ => rfl) (fun e' _ he' => hkey e' he'), ?_, ?_⟩, up _⟩
    · simp [Instr.mapUpdate, run_underlying kk_und, Go.MapKept.run_getObj_map hb, kk_check, e1, hj, e3, kk_stays, run_setObj_map _ hb, Result.andThen, F]
    · intro x hx
      rcases Go.MapFrom.mem_modify hx with hx | ⟨e', _, rfl⟩
      · exact h2 x hx
      · exact ⟨a, c, p, rfl, rfl⟩
    · have hpw := ((stamped_iff es clock).1 h1).2.2
      have hat : ∀ i, (es.modify j F).toList[i]? = if j = i then (es.toList[i]?).map F else es.toList[i]? := fun i => by
        rw [Array.toList_modify, List.getElem?_modify]; split <;> simp
      intro x y q
      show (if x = a ∧ y = c then some p else f x y) = some q ↔ _
      constructor
      · intro hh
        by_cases hxy : x = a ∧ y = c
        · obtain ⟨rfl, rfl⟩ := hxy
          rw [if_pos ⟨rfl, rfl⟩] at hh
          injection hh with hh
          refine ⟨F e, List.mem_of_getElem? (i := j) (by rw [hat, if_pos rfl, e2]; rfl), rfl, by rw [← hh]⟩
        · rw [if_neg hxy] at hh
          obtain ⟨e', he, h5, h6⟩ := (h3 x y q).1 hh
          obtain ⟨i, hi, rfl⟩ := List.getElem_of_mem he
          have hij : j ≠ i := by
            rintro rfl
            rw [List.getElem?_eq_getElem hi] at e2
            injection e2 with e2
            rw [e2, e3] at h5
            obtain ⟨h7, h8⟩ := kk_inj h5
            exact hxy ⟨h7.symm, h8.symm⟩
          exact ⟨es.toList[i], List.mem_of_getElem? (i := i) (by rw [hat, if_neg hij, List.getElem?_eq_getElem hi]), h5, h6⟩
      · rintro ⟨z, hz, h5, h6⟩
        obtain ⟨i, hi, rfl⟩ := List.getElem_of_mem hz
        have hx' := hat i
        rw [List.getElem?_eq_getElem hi] at hx'
        by_cases hij : j = i
        · subst hij
          rw [if_pos rfl, e2] at hx'
          simp only [Option.map_some, Option.some.injEq] at hx'
          rw [hx'] at h5 h6
          obtain ⟨h7, h8⟩ := kk_inj h5
          rw [if_pos ⟨h7.symm, h8.symm⟩, vv_inj h6]
        · rw [if_neg hij] at hx'
          have hx2 := hx'.symm
          have hxy : ¬ (x = a ∧ y = c) := by
            rintro ⟨rfl, rfl⟩
            have hi2 := (List.getElem?_eq_some_iff.1 hx2)
            have hj2 := (List.getElem?_eq_some_iff.1 e2)
            have := List.pairwise_iff_getElem.1 hpw
            rcases Nat.lt_or_gt_of_ne hij with hlt2 | hlt2
            · exact this j i hj2.1 hi2.1 hlt2 (by rw [hj2.2, hi2.2, e3, h5])
            · exact this i j hi2.1 hj2.1 hlt2 (by rw [hj2.2, hi2.2, e3, h5])
          rw [if_neg hxy]
          exact (h3 x y q).2 ⟨_, List.mem_of_getElem? hx2, h5, h6⟩
/-! ### ranged over -/
/-- a range under way: what has come out, how many are left -/
def RngS (w : World) (b r : Nat) (f : FS) (done : List (Int × Int)) (m : Nat) : Prop :=
  ∃ es clock since seen c0, w.heap[b]? = some (.map es clock) ∧ EntS es clock f ∧ w.heap[r]? = some (.mapIter (some b) since seen c0) ∧ (∀ x ∈ es.toList, x.born < since) ∧ since ≤ c0 ∧ since ≤ clock ∧
    (leftOf es seen).size = m ∧ done.Nodup ∧ ∀ a c, (a, c) ∈ done ↔ ∃ e ∈ es.toList, e.key = kk a c ∧ seen.contains e.born = true
variable {done : List (Int × Int)} {m : Nat}
theorem RngS.upd (h : RngS w b r f done m) (u : Upd S w w') (h1 : ¬ S b) (h2 : ¬ S r) : RngS w' b r f done m := by
  obtain ⟨es, clock, since, seen, c0, hb, he, hr, rest⟩ := h
  have l1 := (Array.getElem?_eq_some_iff.1 hb).1
  have l2 := (Array.getElem?_eq_some_iff.1 hr).1
  exact ⟨es, clock, since, seen, c0, by rw [u.block b l1 h1]; exact hb, he, by rw [u.block r l2 h2]; exact hr, rest⟩
theorem RngS.ne (h : RngS w b r f done m) : r ≠ b := by
  obtain ⟨es, clock, since, seen, c0, hb, he, hr, rest⟩ := h
  rintro rfl
  rw [hb] at hr; cases hr
theorem RngS.lt (h : RngS w b r f done m) : b < w.heap.size ∧ r < w.heap.size := by
  obtain ⟨es, clock, since, seen, c0, hb, he, hr, rest⟩ := h
  exact ⟨(Array.getElem?_eq_some_iff.1 hb).1, (Array.getElem?_eq_some_iff.1 hr).1⟩
theorem RngS.map (h : RngS w b r f done m) : MapS w b f := by
  obtain ⟨es, clock, since, seen, c0, hb, he, hr, rest⟩ := h
  exact ⟨es, clock, hb, he⟩
theorem MapS.range (h : MapS w b f) : ∃ w' m, Runs Tryd.prog (Instr.range 49 (.map (some b))) w (.pointer (some ⟨w.heap.size, 0, none⟩)) w' ∧ RngS w' b w.heap.size f [] m ∧ Ext w w' ∧ w'.heap.size = w.heap.size + 1 := by
  obtain ⟨es, clock, hb, he⟩ := h
  have hlt := (Array.getElem?_eq_some_iff.1 hb).1
  refine ⟨_, _, run_range_map w _ _ _ b es clock kk_und hb, ⟨es, clock, clock, #[], clock, ((MapKept.heap_alloc w _).2 b hlt).trans hb, he, (MapKept.heap_alloc w _).1, ((stamped_iff es clock).1 he.1).1, Nat.le_refl _, Nat.le_refl _, rfl, List.nodup_nil, fun a c => ?_⟩, ?_, by simp⟩
  · simp
  · exact ⟨rfl, rfl, rfl, by simp, fun i hi _ => (MapKept.heap_alloc w _).2 i hi⟩
theorem RngS.next (h : RngS w b r f done m) (ty : Nat) :
    (Runs Tryd.prog (Instr.next (.pointer (some ⟨r, 0, none⟩)) false ty) w (.tuple #[.bool false]) w ∧ ∀ a c, (a, c) ∈ done ↔ f a c ≠ none) ∨
    ∃ a c p w1 m', Runs Tryd.prog (Instr.next (.pointer (some ⟨r, 0, none⟩)) false ty) w (.tuple #[.bool true, kk a c, vv p]) w1 ∧ Runs Tryd.prog (Instr.entry (.pointer (some ⟨r, 0, none⟩))) w1 (.tuple #[kk a c, vv p]) w1 ∧
      RngS w1 b r f (done ++ [(a, c)]) m' ∧ m' < m ∧ (a, c) ∉ done ∧ f a c = some p ∧ Upd (fun i => i = r) w w1 := by
  have hne := h.ne
  obtain ⟨es, clock, since, seen, c0, hb, he, hr, hold, h1, h2, h3, hnd, hd⟩ := h
  have hst := (stamped_iff es clock).1 he.1
  have hpw := hst.2.2
  have same : ∀ {x y : MapEntry}, x ∈ es.toList → y ∈ es.toList → x.key = y.key → x = y := fun {x y} hx hy e => by
    obtain ⟨i, hi, rfl⟩ := List.getElem_of_mem hx
    obtain ⟨j, hj, rfl⟩ := List.getElem_of_mem hy
    have := List.pairwise_iff_getElem.1 hpw
    rcases Nat.lt_trichotomy i j with hlt | heq | hgt
    · exact absurd e (this i j hi hj hlt)
    · subst heq; rfl
    · exact absurd e.symm (this j i hj hi hgt)
  rcases run_next_at (P := Tryd.prog) w ty r b since c0 seen es clock hr hb hold h1 with ⟨h0, hrun⟩ | ⟨e, hel, w1, hal, hrun⟩
  · refine .inl ⟨hrun, fun a c => ?_⟩
    rw [hd]
    constructor
    · rintro ⟨e, hel, hk, _⟩
      obtain ⟨p, hp, _⟩ := he.at_ hel hk
      rw [hp]; simp
    · intro hn
      cases hf : f a c with
      | none => exact absurd hf hn
      | some p =>
        obtain ⟨e, hel, hk, _⟩ := (he.2.2 a c p).1 hf
        exact ⟨e, hel, hk, all_seen es seen h0 e hel⟩
  · obtain ⟨hem, hes⟩ := mem_left hel
    obtain ⟨a, c, p, hk, hv⟩ := he.2.1 e hem
    have hr1 : w1.heap[r]? = some (.mapIter (some b) since seen c0) := by rcases hal with rfl | rfl <;> exact hr
    have hb1 : w1.heap[b]? = some (.map es clock) := by rcases hal with rfl | rfl <;> exact hb
    have hset := heap_set (o' := .mapIter (some b) since (seen.push e.born) clock) hr1
    have hb' : (setBlock w1 r (.mapIter (some b) since (seen.push e.born) clock)).heap[b]? = some (.map es clock) := (hset.2 b (fun e1 => hne e1.symm)).trans hb1
    have hno : (a, c) ∉ done := fun hm => by
      obtain ⟨e', he', hk', hs'⟩ := (hd a c).1 hm
      have := same he' hem (hk'.trans hk.symm)
      subst this
      rw [hes] at hs'; cases hs'
    rw [hk, hv] at hrun
    refine .inr ⟨a, c, p, _, _, hrun, ?_, ⟨es, clock, since, seen.push e.born, clock, hb', he, hset.1, hold, h2, h2, rfl, ?_, fun a' c' => ?_⟩, ?_, hno, (he.2.2 a c p).2 ⟨e, hem, hk, hv⟩, ?_⟩
    · have := run_entry_at (P := Tryd.prog) _ r b since seen es clock e hset.1 hb' hem hst.2.1
      rw [hk, hv] at this
      exact this
    · rw [List.nodup_append]
      refine ⟨hnd, by simp, fun x hx y hy e => ?_⟩
      rw [List.mem_singleton] at hy
      subst hy; subst e
      exact hno hx
    · rw [List.mem_append, List.mem_singleton, hd]
      constructor
      · rintro (⟨e', he', hk', hs'⟩ | hac)
        · exact ⟨e', he', hk', by rw [contains_push, hs', Bool.true_or]⟩
        · injection hac with e1 e2
          subst e1; subst e2
          exact ⟨e, hem, hk, by rw [contains_push]; simp⟩
      · rintro ⟨e', he', hk', hs'⟩
        rw [contains_push, Bool.or_eq_true] at hs'
        rcases hs' with hs' | hs'
        · exact .inl ⟨e', he', hk', hs'⟩
        · have := born_inj hst.2.1 he' hem (by simpa using hs')
          subst this
          obtain ⟨e1, e2⟩ := kk_inj (hk'.symm.trans hk)
          subst e1; subst e2
          exact .inr rfl
    · rw [← h3]; exact left_shrinks es seen e hel
    · rcases hal with rfl | rfl <;> exact ⟨rfl, rfl, rfl, by simp [setBlock], fun i _ hi => hset.2 i hi⟩
end
end Go.Proofs.YtihnjjmbcbfheaaDoor.V
