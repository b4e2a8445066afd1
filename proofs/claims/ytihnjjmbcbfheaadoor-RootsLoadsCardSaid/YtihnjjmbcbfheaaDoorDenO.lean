/-
  'den' is enough: an operation, a region.
-/
import Derived.Test.YtihnjjmbcbfheaaDoorDenS
namespace Go.Proofs.YtihnjjmbcbfheaaDoor.V
open Go Go.RowKit
set_option linter.unusedVariables false
set_option linter.unusedSimpArgs false

section
variable {P : Program} {τ : Tab}

theorem runD_sound (s : Option Sh) (m : Sem Value) (w : World) (K : KW) (h : runD P s m w K) : ∃ v w', m.run P w = .ok v w' ∧ K v w' := by
  unfold runD at h
  split at h
  · obtain ⟨v, w', h1, h2⟩ := Sh.ex_spec _ _ h
    exact ⟨v, w', h1, h2⟩
  · exact h
theorem size_zrow (z : List Value) (n : Nat) : (zrow z n).size = n * z.length := by simp [zrow]
theorem rep_eq (z : List Value) : ∀ n, (rep z n).length = n * z.length
  | 0 => by simp [rep]
  | n + 1 => by simp [rep, rep_eq z n, Nat.add_mul, Nat.add_comm]
theorem rep_zrow (z : List Value) (n : Nat) : (Array.range (n * z.length)).map (z.toArray[· % z.toArray.size]!) = (rep z n).toArray := by
  apply Array.ext'
  apply List.ext_getElem
  · simp [rep_eq]
  intro i h1 h2
  have hz : 0 < z.length := by
    rcases Nat.eq_zero_or_pos z.length with h0 | h0
    · simp [h0] at h1
    · exact h0
  have key : ∀ (n i : Nat), (h : i < (rep z n).length) → (rep z n)[i] = z[i % z.length]'(Nat.mod_lt _ hz) := by
    intro n
    induction n with
    | zero => intro i h; simp [rep] at h
    | succ n ih =>
      intro i h
      simp only [rep]
      rw [List.getElem_append]
      split
      · rename_i hi
        congr 1
        exact (Nat.mod_eq_of_lt hi).symm
      · rename_i hi
        rw [ih]
        congr 1
        rw [Nat.mod_eq_sub_mod (a := i) (by omega)]
  have h2' : i < (rep z n).length := by simpa using h2
  simp only [List.getElem_toArray, key n i h2']
  have hm : i % z.length < z.length := Nat.mod_lt _ hz
  simp [hm]
theorem rowPl_eq (size : Nat) : ∀ (n off i : Nat), (rowPl size off n)[i]? = if i < n then some (off + i * size, size) else none
  | 0, off, i => by simp [rowPl]
  | n + 1, off, 0 => by simp [rowPl]
  | n + 1, off, i + 1 => by
    simp only [rowPl, List.getElem?_cons_succ, rowPl_eq size n, Nat.add_lt_add_iff_right]
    split
    · congr 2; rw [Nat.add_mul]; omega
    · rfl
theorem fill_more (f g : Nat → Option (Nat × Nat)) (hfg : ∀ i x, f i = some x → g i = some x) : ∀ (parts : List (Nat × Value)) (cells r : Array Value),
    Instr.fill f cells parts = some r → Instr.fill g cells parts = some r := by
  intro parts
  induction parts with
  | nil => intro cells r h; exact h
  | cons p l ih =>
    obtain ⟨i, v⟩ := p
    intro cells r h
    unfold Instr.fill at h ⊢
    split at h
    · cases h
    · rename_i off size hi
      rw [hfg i _ hi]
      simp only []
      split at h
      · cases h
      · rename_i hc
        rw [if_neg hc]
        exact ih _ _ h

theorem makeSliceD_sound (hτ : τ.Ok P) (t : Nat) (l c : Value) (w : World) (K : KW) (h : makeSliceD τ t l c w K) : ∃ v w', (Instr.makeSlice t l c).run P w = .ok v w' ∧ K v w' := by
  unfold makeSliceD at h
  split at h
  · rename_i el kl l kc c hd
    split at h
    · rename_i n b z hs
      obtain ⟨⟨h0, h1, h2, h3⟩, hk⟩ := h
      obtain ⟨i, hi, hn, rfl, hzn, zv, hz, hzc⟩ := hτ.siz _ _ _ _ hs
      subst hn
      refine ⟨_, _, ?_, hk _ rfl⟩
      have hl : IntKind.i64.wrap l = l := IntWalk.i64_in _ (by omega)
      have hc : IntKind.i64.wrap c = c := IntWalk.i64_in _ (by omega)
      have e1 : ¬ (c < 0 ∨ i.bytes * c > 281474976710656) := by omega
      have e2 : ¬ (l < 0 ∨ i.bytes * l > 281474976710656) := by
        have : (i.bytes : Int) * l ≤ i.bytes * c := Int.mul_le_mul_of_nonneg_left h1 (by omega)
        omega
      unfold Instr.makeSlice
      have e3 : ¬ (l < 0 ∨ c < l) := by omega
      simp only [Sem.run_bind, run_underlying (hτ.slice hd), Result.andThen_ok, asInt, asIntOf, typeInfo, run_program, hi, Sem.run_pure, hl, hc]
      have e4 : ((decide (c < 0) || decide (↑i.bytes * c > 2 ^ 48)) || decide (l < 0) || decide (l > c)) = false := by
        simp; omega
      rw [e4]
      simp only [Bool.false_eq_true, if_false]
      simp [sizeOf, typeInfo, hi, zeroValue, hz, newRow, hzc, zrow, ← hzn]
      intro h0'
      simp [h0', show Array.range 0 = #[] from rfl]
    · exact h.elim
  · exact h.elim
theorem buildSliceD_sound (hτ : τ.Ok P) (t len : Nat) (parts : Array (Nat × Value)) (w : World) (K : KW) (h : buildSliceD τ t len parts.toList w K) :
    ∃ v w', (Instr.buildSlice t len parts).run P w = .ok v w' ∧ K v w' := by
  unfold buildSliceD at h
  split at h
  · rename_i el hd
    split at h
    · rename_i sz b z hs
      obtain ⟨h1, h⟩ := h
      obtain ⟨cells, hk, hf⟩ := fillD_sound _ _ _ _ h
      obtain ⟨i, hi, hn, hb, hzn, zv, hz, hzc⟩ := hτ.siz _ _ _ _ hs
      refine ⟨_, _, ?_, hk _ rfl⟩
      have hf' := fill_more _ (fun i => some (i * sz, sz)) (fun i x hx => by
        simp only [List.getElem?_toArray, rowPl_eq, Nat.zero_add] at hx
        split at hx
        · exact hx
        · cases hx) _ _ _ hf
      have e1 : ¬ (len * sz > 2 ^ 24) := by omega
      unfold Instr.buildSlice
      simp only [Sem.run_bind, run_underlying (hτ.slice hd), Result.andThen_ok, run_sizeOf hτ hs, e1, if_false]
      by_cases h0 : len * sz = 0
      · have hr : (rep z len) = [] := List.eq_nil_of_length_eq_zero (by rw [rep_eq, hzn]; exact h0)
        rw [hr] at hf'
        simp only [h0, Sem.run_bind, if_true, Sem.run_pure, Result.andThen_ok, show Array.range 0 = #[] from rfl]
        simp [hf', newRow]
      · have hr := rep_zrow z len
        rw [hzn] at hr
        simp only [h0, if_false, Sem.run_bind, zeroValue, typeInfo, run_program, hi, Result.andThen_ok, Sem.run_pure, hz, hzc, hr, hf']
        simp [newRow]
    · exact h.elim
  · exact h.elim

/-- what is asked when an operation has run -/
def opNext (P : Program) (K : KW) : Next → World → Prop
  | .value v, w => K v w
  | .skip, w => K undef w
  | .enter f args, w => Calls P f args w fun e w' => ∃ v, e = .returned v ∧ K v w'
  | .round l f tmps assign body, w => RoundIn Fence.wide 0 P l f tmps assign body w fun e w' => ∃ v, e = .returned v ∧ K v w'
  | _, _ => False
def OpSem (P : Program) (o : Oper) (e : Env) (w : World) (K : KW) : Prop := ∃ nx w', (execOp (ev e) o).run P w = .ok nx w' ∧ opNext P K nx w'
theorem opD_sem (hτ : τ.Ok P) (o : Oper) (e : Env) (w : World) (K : KW) (h : opD P τ o.op o.type e w K) : OpSem P o e w K := by
  have pur : pureD τ o.op e (fun v => K v w) → OpSem P o e w K := fun h =>
    let ⟨v, hk, hr⟩ := pureD_sound hτ o e _ h
    ⟨.value v, w, hr w, hk⟩
  have val : ∀ m : Sem Value, (∃ v w', m.run P w = .ok v w' ∧ K v w') → ((execOp (ev e) o).run P w = (do pure (Next.value (← m)) : Sem Next).run P w) → OpSem P o e w K := by
    rintro m ⟨v, w', hr, hk⟩ heq
    exact ⟨.value v, w', by rw [heq]; simp [hr], hk⟩
  unfold opD at h
  split at h
  · rename_i t x ho
    obtain ⟨v, hk, p, hx, hl⟩ := loadD_sound hτ _ _ _ _ h
    exact ⟨.value v, w, exec_load o e t x ho p hx w v (run_loadVar hτ t w p v hl), hk⟩
  · rename_i t x y ho
    obtain ⟨w', hk, hr⟩ := storeD_sound hτ _ _ _ _ _ h
    exact ⟨.skip, w', by simp [execOp, ho, hr], hk⟩
  · rename_i t ho
    unfold allocD at h
    split at h
    · rename_i z hs
      obtain ⟨i, hi, _, _, _, zv, hz, hzc⟩ := hτ.siz _ _ _ _ hs
      exact ⟨.value _, _, by simp [execOp, ho, Instr.alloc, zeroValue, typeInfo, hi, hz, newVar, newRow, hzc], h _ rfl⟩
    · exact h.elim
  · rename_i t x ho
    exact ⟨.value _, _, by simp [execOp, ho, Instr.box, newVar, newRow], h _ rfl⟩
  · rename_i t l c ho
    exact val _ (makeSliceD_sound hτ t _ _ w K h) (by simp [execOp, ho])
  · rename_i t n parts ho
    exact val _ (buildSliceD_sound hτ t n (parts.map fun p => (p.1, ev e p.2)) w K (by simpa using h)) (by simp [execOp, ho])
  · rename_i s d x ho
    split at h
    · rename_i k n hx
      exact pur (by rw [ho]; simp only [pureD, hx]; exact h)
    · exact val _ (runD_sound _ _ _ _ h) (by simp [execOp, ho])
  · rename_i c ho
    split at h
    · rename_i f hc
      unfold callD at h
      split at h
      · rename_i f' fi ca hf
        obtain ⟨hi, h⟩ := h
        refine ⟨.enter _ _, w, exec_call hτ o e c ho f hc f' fi ca hf hi w, h.mono fun en w' hr => ?_⟩
        unfold retK at hr
        split at hr
        · exact Sh.ex_spec _ _ hr
        · exact hr
      · exact h.elim
    · rename_i hc
      exact val _ (runD_sound _ _ _ _ h) (by
        obtain ⟨_, ⟨args⟩, _⟩ := c
        simp only [] at hc; subst hc
        simp [execOp, ho, resolve, invoke, builtin])
    · rename_i hc
      exact val _ (runD_sound _ _ _ _ h) (by
        obtain ⟨_, ⟨args⟩, _⟩ := c
        simp only [] at hc; subst hc
        simp [execOp, ho, resolve, invoke, builtin])
    · rename_i hc
      exact val _ (runD_sound _ _ _ _ h) (by
        obtain ⟨_, ⟨args⟩, _⟩ := c
        simp only [] at hc; subst hc
        simp [execOp, ho, resolve, invoke, builtin])
    · exact pur (by rw [ho]; exact h)
  · rename_i t r ho
    exact val _ (runD_sound _ _ _ _ h) (by simp [execOp, ho])
  · rename_i t x i ok ho
    exact val _ (runD_sound _ _ _ _ h) (by simp [execOp, ho])
  · rename_i t m k x ho
    obtain ⟨w', hr, hk⟩ := h
    exact ⟨.skip, w', by simp [execOp, ho, show (Instr.mapUpdate t (ev e m) (ev e k) (ev e x)).run P w = .ok () w' from hr], hk⟩
  · rename_i t m k x ho
    obtain ⟨w', hr, hk⟩ := h
    exact ⟨.skip, w', by simp [execOp, ho, show (Instr.mapUpdate t (ev e m) (ev e k) (ev e x)).run P w = .ok () w' from hr], hk⟩
  · rename_i t x ho
    exact val _ (runD_sound _ _ _ _ h) (by simp [execOp, ho])
  · rename_i x s ho
    exact val _ (nextD_sound h) (by simp [execOp, ho])
  · rename_i x ho
    exact val _ (entryD_sound h) (by simp [execOp, ho])
  · exact pur h

theorem undef_bool (b : Bool) : undef ≠ .bool b := by intro h; cases h
theorem gdst_eq : ∀ (all : List Oper) (j : Nat), (all[j]?).bind (·.dst) = gdst all j
  | [], _ => by simp [gdst]
  | _ :: _, 0 => rfl
  | _ :: l, n + 1 => by simpa [gdst] using gdst_eq l n
theorem rd_some {e : Env} {d : Nat} {b : Bool} (h : rd e d = .bool b) : e[d]? = some (.bool b) := by
  rw [rd_eq] at h
  cases hd : e[d]? with
  | none => rw [List.getD_eq_getElem?_getD, hd] at h; exact (undef_bool b h).elim
  | some v => rw [List.getD_eq_getElem?_getD, hd] at h; simpa using h
theorem wr_rd {e : Env} {d : Nat} {v : Value} (h : rd e d = v) : wr e d v = e := by
  subst h
  refine env_ext (length_wr ..) fun t => ?_
  by_cases ht : t = d
  · subst ht
    rw [rd_eq, rd_eq, wr_eq]
    simp only [List.getD_eq_getElem?_getD, List.getElem?_set]
    split
    · split
      · rename_i h; simp [h]
      · rename_i h; simp [List.getElem?_eq_none (Nat.le_of_not_lt h)]
    · rfl
  · exact rd_wr _ _ _ _ ht
/-- a guard: either the operation is wanted, or not -/
theorem guardD_spec (all : List Oper) (o : Oper) (e : Env) (yes no : Env → Prop) (h : guardD all o.guard e yes no) :
    (Region.wanted o (yielded all.toArray e.toArray) = true ∧ yes e) ∨ (Region.wanted o (yielded all.toArray e.toArray) = false ∧ no e) := by
  unfold guardD at h
  unfold Region.wanted
  split at h
  · rename_i hg; rw [hg]; exact .inl ⟨rfl, h⟩
  · rename_i j want hg
    rw [hg]
    simp only []
    have hd := gdst_eq all j
    unfold yielded
    simp only [List.getElem?_toArray, hd]
    split at h
    · rename_i d hgd
      rw [hgd]
      simp only [Option.bind_some, List.getElem?_toArray]
      split at h
      · rename_i b hb
        rw [rd_some hb]
        simp only []
        by_cases hbw : b = want
        · subst hbw
          have := (gd_spec h).1 rfl
          rw [wr_rd hb] at this
          exact .inl ⟨by simp, this⟩
        · have hbw' : b = !want := by cases b <;> cases want <;> simp_all
          have := (gd_spec h).2 hbw'
          rw [← hbw', wr_rd hb] at this
          exact .inr ⟨by simpa using hbw, this⟩
      · rename_i hnb
        refine .inr ⟨?_, h⟩
        rw [rd_eq] at hnb
        cases hx : e[d]? with
        | none => simp
        | some v =>
          cases v <;> first | rfl | (exfalso; exact hnb _ (by rw [List.getD_eq_getElem?_getD, hx]; rfl))
    · exact h.elim
theorem asgO_cons (o : Oper) (r : List Oper) : ∀ x, (o.dst = some x → x ∈ asgO (o :: r)) ∧ (x ∈ asgO r → x ∈ asgO (o :: r)) := by
  intro x
  have : asgO (o :: r) = match o.dst with
    | some d => d :: asgO r
    | none => asgO r := rfl
  rw [this]
  cases o.dst with
  | none => exact ⟨fun h => by (cases h), fun h => h⟩
  | some d => exact ⟨fun h => by (injection h with h; subst h; exact List.mem_cons_self ..), fun h => List.mem_cons_of_mem _ h⟩
end
end Go.Proofs.YtihnjjmbcbfheaaDoor.V
