/-
  'den' is enough: one operation.
-/
import Derived.Test.YtihnjjmbcbfheaaDoorDen
namespace Go.Proofs.YtihnjjmbcbfheaaDoor.V
open Go Go.RowKit
set_option linter.unusedVariables false
set_option linter.unusedSimpArgs false

section
variable {P : Program} {τ : Tab}

theorem cellsAt_load (p : Addr) : ∀ (vs : List Value) (i : Nat) (acc : Array Value) (w : World), cellsAt w p i vs →
    (loadCellsFrom p i vs.length acc).run P w = .ok (acc ++ vs.toArray) w := by
  intro vs
  induction vs with
  | nil => intro i acc w _; simp [loadCellsFrom]
  | cons v r ih =>
    intro i acc w h
    obtain ⟨h1, h2⟩ := h
    simp only [List.length_cons, loadCellsFrom, Sem.run_bind]
    have : (load (p.add i)).run P w = .ok v w := by simp [h1]
    rw [this]
    simp only [Result.andThen_ok, ih (i + 1) _ w h2]
    simp
theorem loadD_sound (hτ : τ.Ok P) (t : Nat) (x : Value) (w : World) (K : Value → Prop) (h : loadD τ t x w K) :
    ∃ v, K v ∧ ∃ p, x = .pointer (some p) ∧ ((∃ b, aggB (lk τ.und t) = some b ∧ b = false ∧ w.cell? p = some v) ∨
      ∃ n b z vs, aggB (lk τ.und t) = some true ∧ lk τ.siz t = some (n, b, z) ∧ vs.length = n ∧ cellsAt w p 0 vs ∧ v = .agg vs.toArray) := by
  unfold loadD at h
  split at h
  · rename_i a
    obtain ⟨p, rfl, h⟩ := h
    split at h
    · rename_i ha _
      obtain ⟨v, hc, hk⟩ := Sh.ex_spec _ _ h
      exact ⟨v, hk, p, rfl, .inl ⟨_, ha, rfl, hc⟩⟩
    · rename_i n b z l ha hs _
      obtain ⟨vs, hl, hc, hk⟩ := Sh.exL_spec _ _ h
      rw [len'_eq] at hl
      exact ⟨_, hk, p, rfl, .inr ⟨n, b, z, vs, ha, hs, hl, hc, rfl⟩⟩
    · exact h.elim
  · exact h.elim
theorem run_loadVar (hτ : τ.Ok P) (t : Nat) (w : World) (p : Addr) (v : Value) (h : (∃ b, aggB (lk τ.und t) = some b ∧ b = false ∧ w.cell? p = some v) ∨
      ∃ n b z vs, aggB (lk τ.und t) = some true ∧ lk τ.siz t = some (n, b, z) ∧ vs.length = n ∧ cellsAt w p 0 vs ∧ v = .agg vs.toArray) :
    (loadVar t p).run P w = .ok v w := by
  unfold loadVar
  rcases h with ⟨b, ha, rfl, hc⟩ | ⟨n, b, z, vs, ha, hs, rfl, hc, rfl⟩
  · simp [run_isAgg hτ ha, hc]
  · have := cellsAt_load (P := P) p vs 0 #[] w hc
    simp [run_isAgg hτ ha, run_sizeOf hτ hs, loadCells, this]
theorem exec_load (o : Oper) (e : Env) (t : Nat) (x : Operand) (ho : o.op = .load t x) (p : Addr) (hx : ev e x = .pointer (some p)) (w : World) (v : Value)
    (h : (loadVar t p).run P w = .ok v w) : (execOp (ev e) o).run P w = .ok (.value v) w := by
  simp [execOp, ho, Instr.loadAt, hx, Instr.sureAddr, h]

theorem one_one {v : Value} (h : one v) : v.oneCell' = true := by
  cases v <;> first | rfl | exact h.elim
theorem addr_add_inj (p : Addr) (i j : Nat) (h : p.add i = p.add j) (hp : p.spot = none) : i = j := by
  unfold Addr.add at h
  split at h <;> split at h <;> first | omega | skip
  · rename_i h0 h1; have := congrArg Addr.off h; simp at this; omega
  · rename_i h0 h1; have := congrArg Addr.off h; simp at this; omega
  · have := congrArg Addr.off h; simp at this; omega
theorem CanSet.at_ {w : World} {p : Addr} : ∀ {n : Nat}, CanSet w p n → ∀ i, i < n → (∃ v, w.cell? (p.add i) = some v) ∧ w.frozen? (p.add i) = false
  | 0, _, i, hi => absurd hi (by omega)
  | n + 1, h, i, hi => by
    by_cases hn : i = n
    · subst hn; exact ⟨h.1, h.2.1⟩
    · exact CanSet.at_ h.2.2 i (by omega)
theorem setCell_some (w : World) (a q : Addr) (x v : Value) (h : w.cell? q = some v) : ∃ v', (w.setCell a x).cell? q = some v' := by
  by_cases e : a = q
  · subst e; exact ⟨x, World.cell?_setCell_same w a x h⟩
  · exact ⟨v, (World.cell?_setCell_other w a q x e).trans h⟩
theorem setCell_frozen (w : World) (a q : Addr) (x : Value) : (w.setCell a x).frozen? q = w.frozen? q := World.frozen?_setCell ..
theorem run_storeCells (p : Addr) : ∀ (vs : List Value) (i : Nat) (w : World), (∀ v ∈ vs, one v) → (∀ j, j < vs.length → (∃ v, w.cell? (p.add (i + j)) = some v) ∧ w.frozen? (p.add (i + j)) = false) →
    (storeCells p vs i).run P w = .ok () (setL w p i vs) := by
  intro vs
  induction vs with
  | nil => intro i w _ _; simp [storeCells, setL]
  | cons v r ih =>
    intro i w h1 h2
    obtain ⟨⟨u, hu⟩, hf⟩ := h2 0 (by simp)
    simp only [Nat.add_zero] at hu hf
    unfold storeCells
    simp only [Sem.run_bind]
    rw [run_store P w _ v _ (one_one (h1 v (by simp)))]
    simp only [stored, hu, hf]
    simp only [Result.andThen_ok, Bool.false_eq_true, if_false, setL]
    refine ih (i + 1) _ (fun v hv => h1 v (List.mem_cons_of_mem _ hv)) fun j hj => ?_
    obtain ⟨⟨u', hu'⟩, hf'⟩ := h2 (j + 1) (by simpa using hj)
    rw [show i + 1 + j = i + (j + 1) by omega]
    exact ⟨setCell_some _ _ _ _ _ hu', by rw [setCell_frozen]; exact hf'⟩
theorem ones_spec : ∀ (l : List Value), ones l → ∀ v ∈ l, one v
  | [], _, v, h => by simp at h
  | x :: l, h, v, hv => by
    rcases List.mem_cons.1 hv with rfl | hv
    · exact h.1
    · exact ones_spec l h.2 v hv
theorem storeD_sound (hτ : τ.Ok P) (t : Nat) (x v : Value) (w : World) (K : World → Prop) (h : storeD τ t x v w K) :
    ∃ w', K w' ∧ (Instr.storeAt t x v).run P w = .ok () w' := by
  unfold storeD at h
  split at h
  · obtain ⟨p, rfl, h⟩ := h
    split at h
    · rename_i n _ _ hs
      split at h
      · rename_i cs
        obtain ⟨h1, h2, h3, hk⟩ := h
        rw [len'_eq] at h1
        refine ⟨_, hk _ rfl, ?_⟩
        have hc : (Value.agg cs).cells = cs := rfl
        have hr := run_storeCells (P := P) p cs.toList 0 w (ones_spec _ h2) (fun j hj => by simpa using h3.at_ j (by omega))
        simp only [Array.length_toList] at h1
        simp [Instr.storeAt, Instr.sureAddr, storeVar, hc, run_sizeOf hτ hs, h1, hr]
      · obtain ⟨rfl, h2, h3, hk⟩ := h
        refine ⟨_, hk _ rfl, ?_⟩
        have hc : v.cells = #[v] := by cases v <;> first | rfl | exact h2.elim
        have hr := run_storeCells (P := P) p [v] 0 w (by simpa using h2) (fun j hj => by simpa using h3.at_ j (by simpa using hj))
        simp [Instr.storeAt, Instr.sureAddr, storeVar, hc, run_sizeOf hτ hs, hr]
    · exact h.elim
  · exact h.elim

theorem run_callFunc (hτ : τ.Ok P) (f : Nat) (hf : isIn τ.fns f = true) (args : Array Value) (w : World) : (callFunc f args).run P w = .ok (.enter f args) w := by
  obtain ⟨fn, h1, h2, h3⟩ := hτ.fns f hf
  have h2' : fn.name ≠ "runtime.NumGoroutine" := by simpa using h2
  have h3' : fn.body ≠ none := by
    intro h
    simp [h] at h3
  simp [callFunc, h1, h2', h3']
theorem exec_call (hτ : τ.Ok P) (o : Oper) (e : Env) (c : Call) (ho : o.op = .call c) (g : Operand) (hc : c.callee = .value g) (f : Nat) (fi ca : Array Value)
    (hg : ev e g = .func (.func f) fi ca) (hf : isIn τ.fns f = true) (w : World) :
    (execOp (ev e) o).run P w = .ok (.enter f (fi.toList ++ (c.args.toList.map (ev e) ++ ca.toList)).toArray) w := by
  have : (fi ++ c.args.map (ev e) ++ ca) = (fi.toList ++ (c.args.toList.map (ev e) ++ ca.toList)).toArray := by
    apply Array.ext'
    simp
  simp [execOp, ho, resolve, hc, Deferred.ofValue, hg, invoke, run_callFunc hτ f hf, this]
end
end Go.Proofs.YtihnjjmbcbfheaaDoor.V
