/-
  Maps with whole-number keys: what they say of a key; looked up, set.
-/
import Derived.Test.YtepmokkhcombmaaDoorArith
import Derived.MapKept
import Derived.MapFrom
namespace Go.Proofs.YtepmokkhcombmaaDoor.V
open Go Go.RowKit Go.MapKept
set_option linter.unusedVariables false
set_option linter.unusedSimpArgs false

/-- a map in memory: of each key what it holds -/
def MapI (w : World) (r : Nat) (k : IntKind) (f : Int → Option Value) : Prop :=
  ∃ es clock, w.heap[r]? = some (.map es clock) ∧ Stamped es clock ∧ (∀ x ∈ es.toList, ∃ n, x.key = .int k n) ∧ ∀ n v, f n = some v ↔ ∃ e ∈ es.toList, e.key = .int k n ∧ e.val = v
theorem MapI.upd {w w' : World} {r : Nat} {k : IntKind} {f : Int → Option Value} {S : Nat → Prop} (h : MapI w r k f) (u : Upd S w w') (hS : ¬ S r) : MapI w' r k f := by
  obtain ⟨es, clock, hb, h1, h2, h3⟩ := h
  have hlt : r < w.heap.size := (Array.getElem?_eq_some_iff.1 hb).1
  exact ⟨es, clock, by rw [u.block r hlt hS]; exact hb, h1, h2, h3⟩
theorem MapI.lt {w : World} {r : Nat} {k : IntKind} {f : Int → Option Value} (h : MapI w r k f) : r < w.heap.size := by
  obtain ⟨es, clock, hb, _⟩ := h
  exact (Array.getElem?_eq_some_iff.1 hb).1
theorem MapI.new {w w' : World} {k : IntKind} (n : NewW w (.map #[] 0) w') : MapI w' w.heap.size k fun _ => none :=
  ⟨#[], 0, n.new, stamped_empty 0, by simp, by simp⟩
section
variable {P : Program} {w : World} {mty kt et r : Nat} {k : IntKind} {f : Int → Option Value}
theorem run_makeMap : ∃ w', Runs P (Instr.makeMap mty none) w (.map (some w.heap.size)) w' ∧ NewW w (.map #[] 0) w' :=
  ⟨w.alloc (.map #[] 0), by simp [Runs, Instr.makeMap], rfl⟩
theorem MapI.look (hm : P.underlying mty = some (.map kt et)) (hd : P.underlying kt = some (.int k)) {z : Value} (hz : (zeroValue et).run P w = .ok z w) (h : MapI w r k f) (n : Int) :
    Runs P (Instr.lookup mty (.map (some r)) (.int k n) false) w ((f n).getD z) w := by
  obtain ⟨es, clock, hb, h1, h2, h3⟩ := h
  have hks : ∀ x ∈ es.toList, IsKey (.int k) x.key := fun x hx => by obtain ⟨n, hn⟩ := h2 x hx; rw [hn]; simp [IsKey]
  have hk : IsKey (.int k) (.int k n) := by simp [IsKey]
  unfold Runs
  rcases findNow_spec hk es.toList 0 hks with ⟨e1, e2⟩ | ⟨j, e, e1, e2, e3⟩
  · have hn : f n = none := by
      cases hf : f n with
      | none => rfl
      | some v =>
        obtain ⟨e, he, hke, _⟩ := (h3 n v).1 hf
        exact (e2 e he hke).elim
    rw [hn]
    simp [Instr.lookup, run_underlying hm, Go.MapKept.run_getObj_map hb, run_checkKey hd hk, run_findKey hd e1, hz, Result.andThen]
  · have hn : f n = some e.val := (h3 n _).2 ⟨e, List.mem_of_getElem? e2, e3, rfl⟩
    rw [hn]
    simp [Instr.lookup, run_underlying hm, Go.MapKept.run_getObj_map hb, run_checkKey hd hk, run_findKey hd e1, Result.andThen]
theorem MapI.put (hm : P.underlying mty = some (.map kt et)) (hd : P.underlying kt = some (.int k)) (h : MapI w r k f) (n : Int) (v : Value) :
    ∃ w', (Instr.mapUpdate mty (.map (some r)) (.int k n) v).run P w = .ok () w' ∧ MapI w' r k (fun m => if m = n then some v else f m) ∧ Upd (fun i => i = r) w w' := by
  obtain ⟨es, clock, hb, h1, h2, h3⟩ := h
  have hlt : r < w.heap.size := (Array.getElem?_eq_some_iff.1 hb).1
  have hks : ∀ x ∈ es.toList, IsKey (.int k) x.key := fun x hx => by obtain ⟨n, hn⟩ := h2 x hx; rw [hn]; simp [IsKey]
  have hk : IsKey (.int k) (.int k n) := by simp [IsKey]
  have up : ∀ o : Obj, Upd (fun i => i = r) w { w with heap := w.heap.setIfInBounds r o } := fun o =>
    ⟨rfl, rfl, rfl, by simp, fun i hi hn => (heap_set hb).2 i hn⟩
  rcases findNow_spec hk es.toList 0 hks with ⟨e1, e2⟩ | ⟨j, e, e1, e2, e3⟩
  · refine ⟨_, by simp [Instr.mapUpdate, run_underlying hm, Go.MapKept.run_getObj_map hb, run_checkKey hd hk, run_findKey hd e1, run_setObj_map _ hb, Result.andThen]; rfl, ⟨_, _, (heap_set hb).1, stamped_push h1 e2, ?_, ?_⟩, up _⟩
    · intro x hx
      simp only [Array.toList_push, List.mem_append, List.mem_singleton] at hx
      rcases hx with hx | rfl
      · exact h2 x hx
      · exact ⟨n, rfl⟩
    · intro m u
      simp only [Array.toList_push, List.mem_append, List.mem_singleton]
      constructor
      · intro hh
        by_cases hmn : m = n
        · subst hmn
          rw [if_pos rfl] at hh
          injection hh with hh
          exact ⟨_, .inr rfl, rfl, hh⟩
        · rw [if_neg hmn] at hh
          obtain ⟨e, he, h5, h6⟩ := (h3 m u).1 hh
          exact ⟨e, .inl he, h5, h6⟩
      · rintro ⟨e, he | rfl, h5, h6⟩
        · have hmn : m ≠ n := by rintro rfl; exact e2 e he h5
          rw [if_neg hmn]
          exact (h3 m u).2 ⟨e, he, h5, h6⟩
        · injection h5 with _ h5
          rw [if_pos h5.symm, ← h6]
  · have hj : es[j]? = some e := by simpa using e2
    have hkey : ∀ e', es[j]? = some e' → ({ e' with key := .int k n, val := v } : MapEntry).key = e'.key := fun e' he' => by rw [hj] at he'; cases he'; exact e3.symm
    let F : MapEntry → MapEntry := fun e => { e with key := .int k n, val := v }
    refine ⟨{ w with heap := w.heap.setIfInBounds r (.map (es.modify j F) clock) }, ?_, ⟨es.modify j F, clock, (heap_set hb).1, stamped_modify h1 j F (fun _ _ => rfl) (fun e' _ he' => hkey e' he'), ?_, ?_⟩, up _⟩
    · simp [Instr.mapUpdate, run_underlying hm, Go.MapKept.run_getObj_map hb, run_checkKey hd hk, run_findKey hd e1, hj, e3, run_keyThatStays hk, run_setObj_map _ hb, Result.andThen, F]
    · intro x hx
      rcases Go.MapFrom.mem_modify hx with hx | ⟨e', _, rfl⟩
      · exact h2 x hx
      · exact ⟨n, rfl⟩
    · have hpw := ((stamped_iff es clock).1 h1).2.2
      have hat : ∀ i, (es.modify j F).toList[i]? = if j = i then (es.toList[i]?).map F else es.toList[i]? := fun i => by
        rw [Array.toList_modify, List.getElem?_modify]; split <;> simp
      intro m u
      show (if m = n then some v else f m) = some u ↔ _
      constructor
      · intro hh
        by_cases hmn : m = n
        · subst hmn
          rw [if_pos rfl] at hh
          injection hh with hh
          refine ⟨F e, List.mem_of_getElem? (i := j) (by rw [hat, if_pos rfl, e2]; rfl), rfl, hh⟩
        · rw [if_neg hmn] at hh
          obtain ⟨e', he, h5, h6⟩ := (h3 m u).1 hh
          obtain ⟨i, hi, rfl⟩ := List.getElem_of_mem he
          have hij : j ≠ i := by
            rintro rfl
            rw [List.getElem?_eq_getElem hi] at e2
            injection e2 with e2
            rw [e2, e3] at h5
            injection h5 with _ h5
            exact hmn h5.symm
          exact ⟨es.toList[i], List.mem_of_getElem? (i := i) (by rw [hat, if_neg hij, List.getElem?_eq_getElem hi]), h5, h6⟩
      · rintro ⟨x, hx, h5, h6⟩
        obtain ⟨i, hi, rfl⟩ := List.getElem_of_mem hx
        have hx' := hat i
        rw [List.getElem?_eq_getElem hi] at hx'
        by_cases hij : j = i
        · subst hij
          rw [if_pos rfl, e2] at hx'
          simp only [Option.map_some, Option.some.injEq] at hx'
          rw [hx'] at h5 h6
          injection h5 with _ h5
          rw [if_pos h5.symm, ← h6]
        · rw [if_neg hij] at hx'
          have hx2 := hx'.symm
          have hmn : m ≠ n := by
            rintro rfl
            have hi2 := (List.getElem?_eq_some_iff.1 hx2)
            have hj2 := (List.getElem?_eq_some_iff.1 e2)
            have := List.pairwise_iff_getElem.1 hpw
            rcases Nat.lt_or_gt_of_ne hij with hlt2 | hlt2
            · exact this j i hj2.1 hi2.1 hlt2 (by rw [hj2.2, hi2.2, e3, h5])
            · exact this i j hi2.1 hj2.1 hlt2 (by rw [hj2.2, hi2.2, e3, h5])
          rw [if_neg hmn]
          exact (h3 m u).2 ⟨_, List.mem_of_getElem? hx2, h5, h6⟩
end
end Go.Proofs.YtepmokkhcombmaaDoor.V
