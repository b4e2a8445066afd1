/-
  The operations that leave the world alone do what 'pureD' says.
-/
import Derived.Test.YtihnjjmbcbfheaaDoorOps
namespace Go.Proofs.YtihnjjmbcbfheaaDoor.V
open Go Go.RowKit
set_option linter.unusedVariables false
set_option linter.unusedSimpArgs false

section
variable {P : Program} {τ : Tab}
/-- yields v in every world, which stays -/
def Yld (P : Program) (m : Sem Value) (v : Value) : Prop := ∀ w, m.run P w = .ok v w

theorem eqGuard_id (op : BinOp) (t : Nat) (x y : Operand) (a b : Value) (h : (∀ u, a ≠ .agg u) ∧ a ≠ .nilIface) (w : World) :
    (eqGuard op t x y a b).run P w = .ok () w := by
  unfold eqGuard
  cases op <;> simp <;> (cases a <;> simp_all)

theorem intD_sound (op : BinOp) (t : Nat) (k k' : IntKind) (x y : Int) (K : Value → Prop) (h : intD op k k' x y K) :
    ∃ v, K v ∧ Yld P (binOp op t (.int k x) (.int k' y)) v := by
  unfold Yld
  cases op <;> simp only [intD] at h
  case shl => exact ⟨_, h.2, fun w => by simp [binOp, Op.shift, shlV, show ¬ y < 0 by omega]⟩
  case shr => exact ⟨_, h.2, fun w => by simp [binOp, Op.shift, shrV, show ¬ y < 0 by omega]⟩
  case quo => obtain ⟨rfl, h0, h⟩ := h; exact ⟨_, h, fun w => by simp [binOp, Op.intDiv, h0]⟩
  case rem => obtain ⟨rfl, h0, h⟩ := h; exact ⟨_, h, fun w => by simp [binOp, Op.intDiv, h0]⟩
  all_goals obtain ⟨rfl, h⟩ := h
  case add => exact ⟨_, h, fun w => by simp [binOp, Op.intArith]⟩
  case sub => exact ⟨_, h, fun w => by simp [binOp, Op.intArith]⟩
  case mul => exact ⟨_, h, fun w => by simp [binOp, Op.intArith]⟩
  case and => exact ⟨_, h, fun w => by simp [binOp, Op.intBits, bitV]⟩
  case or => exact ⟨_, h, fun w => by simp [binOp, Op.intBits, bitV]⟩
  case xor => exact ⟨_, h, fun w => by simp [binOp, Op.intBits, bitV]⟩
  case andNot => exact ⟨_, h, fun w => by simp [binOp, Op.intBits, bitV]⟩
  all_goals exact ⟨_, h, fun w => by simp [binOp, Op.intCmp]⟩

theorem strD_sound (op : BinOp) (t : Nat) (x y : ByteArray) (K : Value → Prop) (h : strD op x y K) :
    ∃ v, K v ∧ Yld P (binOp op t (.string x) (.string y)) v := by
  unfold Yld
  cases op <;> simp only [strD] at h
  case add => exact ⟨_, h.2, fun w => by simp [binOp, Op.stringOp, IntKind.max, IntKind.signed, IntKind.bits]; omega⟩
  all_goals exact ⟨_, h, fun w => by simp [binOp, Op.stringOp]⟩

theorem eqD_sound (t : Nat) (hτ : τ.Ok P) (x y : Value) (K : Bool → Prop) (h : eqD (lk τ.und t) x y K) :
    ∃ b, K b ∧ ∀ w, (Op.equal t x y).run P w = .ok b w := by
  cases hd : lk τ.und t with
  | none => rw [hd] at h; simp [eqD] at h
  | some d =>
    rw [hd] at h
    unfold eqD at h
    split at h <;> first | exact h.elim | skip
    all_goals rename_i heq <;> injection heq with heq <;> subst heq
    · have hu := hτ.bool hd
      exact ⟨_, h, fun w => by unfold Op.equal Op.maxDepth Op.equalIn; simp only [Sem.run_bind, run_underlying hu, Result.andThen_ok]; rfl⟩
    · rename_i a b
      have hu := hτ.pointer hd
      unfold nilEq at h
      split at h
      · refine ⟨_, h, fun w => ?_⟩
        unfold Op.equal Op.maxDepth Op.equalIn; simp only [Sem.run_bind, run_underlying hu, Result.andThen_ok]
        cases a <;> rfl
      · split at h
        · refine ⟨_, h, fun w => ?_⟩
          unfold Op.equal Op.maxDepth Op.equalIn; simp only [Sem.run_bind, run_underlying hu, Result.andThen_ok]
          rfl
        · exact h.elim
    · rename_i a _ _ b _ _
      have hu := hτ.slice hd
      unfold nilEq at h
      split at h
      · refine ⟨_, h, fun w => ?_⟩
        unfold Op.equal Op.maxDepth Op.equalIn; simp only [Sem.run_bind, run_underlying hu, Result.andThen_ok]
        cases a <;> rfl
      · split at h
        · refine ⟨_, h, fun w => ?_⟩
          unfold Op.equal Op.maxDepth Op.equalIn; simp only [Sem.run_bind, run_underlying hu, Result.andThen_ok]
          rfl
        · exact h.elim
    all_goals
      obtain ⟨_, _, _, hu⟩ := hτ.func hd
      exact ⟨_, h, fun w => by unfold Op.equal Op.maxDepth Op.equalIn; simp only [Sem.run_bind, run_underlying hu, Result.andThen_ok]; rfl⟩

theorem run_isAgg {t : Nat} {b : Bool} (hτ : τ.Ok P) (h : aggB (lk τ.und t) = some b) (w : World) : (isAgg t).run P w = .ok b w := by
  cases hd : lk τ.und t with
  | none => rw [hd] at h; simp [aggB] at h
  | some d =>
    rw [hd] at h
    obtain ⟨d', hu, rfl⟩ := hτ.any hd
    unfold isAgg
    simp only [Sem.run_bind, run_underlying hu, Result.andThen_ok]
    cases d' <;> simp only [strip, aggB, Option.some.injEq] at h <;> subst h <;> rfl
theorem eqFs_sound (hτ : τ.Ok P) : ∀ (fs : List Field) (xs ys : List Value) (acc : Bool) (K : Bool → Prop), eqFs τ (fs.map fun f => (f.offset, f.type)) xs ys acc K → (∀ f ∈ fs, f.name ≠ "_") →
    ∃ b, K (acc && b) ∧ ∀ w, (Op.eqFields 9999 xs.toArray ys.toArray fs).run P w = .ok b w := by
  intro fs
  induction fs with
  | nil => intro xs ys acc K h _; exact ⟨true, by simpa [eqFs] using h, fun w => by simp [Op.eqFields]⟩
  | cons f r ih =>
    intro xs ys acc K h hn
    simp only [List.map_cons] at h
    unfold eqFs at h
    obtain ⟨a, ha, h⟩ := nth_spec _ _ _ h
    obtain ⟨b, hb, h⟩ := nth_spec _ _ _ h
    have hname : f.name ≠ "_" := hn f (by simp)
    have rest := fun acc h => ih xs ys acc K h fun g hg => hn g (List.mem_cons_of_mem _ hg)
    have fin : ∀ (c : Bool), aggB (lk τ.und f.type) = some false → (∀ w, (Op.equalIn 9999 f.type a b).run P w = .ok c w) → eqFs τ (r.map fun f => (f.offset, f.type)) xs ys (acc && c) K →
        ∃ b, K (acc && b) ∧ ∀ w, (Op.eqFields 9999 xs.toArray ys.toArray (f :: r)).run P w = .ok b w := by
      intro c hg hc h
      obtain ⟨d, hk, hd⟩ := rest _ h
      refine ⟨c && d, by rw [← Bool.and_assoc]; exact hk, fun w => ?_⟩
      have hp1 : (part f.type xs.toArray f.offset).run P w = .ok a w := by simp [part, run_isAgg hτ hg, ha]
      have hp2 : (part f.type ys.toArray f.offset).run P w = .ok b w := by simp [part, run_isAgg hτ hg, hb]
      simp only [Op.eqFields, if_pos hname, Sem.run_bind, hp1, hp2, hc w, Result.andThen_ok]
      cases c
      · simp
      · simp [hd w]
    cases hl : lk τ.und f.type with
    | none => rw [hl] at h; exact h.elim
    | some d =>
      rw [hl] at h
      cases d <;> cases a <;> cases b <;> simp only [] at h <;> first | exact h.elim | skip
      · exact fin _ (by rw [hl]; rfl) (fun w => run_equalIn_bool' w _ _ _ _ (hτ.bool hl)) h
      · obtain ⟨rfl, h⟩ := h
        exact fin _ (by rw [hl]; rfl) (fun w => run_equalIn_int w _ _ _ _ _ _ (hτ.int hl)) h
      · exact fin _ (by rw [hl]; rfl) (fun w => run_equalIn_string w _ _ _ _ (hτ.string hl)) h
theorem eqA_sound (hτ : τ.Ok P) (t : Nat) (xs ys : Array Value) (K : Bool → Prop) (h : eqA τ t xs ys K) :
    ∃ b, K b ∧ P.eqGuardType P.depth t = false ∧ ∀ w, (Op.equalIn 10000 t (.agg xs) (.agg ys)).run P w = .ok b w := by
  unfold eqA at h
  split at h
  · rename_i fs hi hd
    obtain ⟨fs', hu, rfl⟩ := hτ.struct hd
    obtain ⟨h1, h2, h3⟩ := hτ.eqs t hi
    have hf : P.fieldsOf t = fs' := by unfold Program.fieldsOf; rw [hu]
    obtain ⟨b, hk, hr⟩ := eqFs_sound hτ fs'.toList xs.toList ys.toList true K h (by rw [← hf]; exact h3)
    refine ⟨b, by simpa using hk, h1, fun w => ?_⟩
    rw [run_equalIn_agg w 9999 t xs ys (by rw [hf]; exact hu) h2, hf]
    exact hr w
  · exact h.elim
theorem binD_sound (hτ : τ.Ok P) (op : BinOp) (t : Nat) (x y : Value) (X Y : Operand) (K : Value → Prop) (h : binD τ op t x y K) :
    ∃ v, K v ∧ Yld P (do eqGuard op t X Y x y; binOp op t x y) v := by
  by_cases hagg : (∃ xs ys, x = .agg xs ∧ y = .agg ys)
  · obtain ⟨xs, ys, rfl, rfl⟩ := hagg
    unfold binD at h
    simp only [] at h
    cases op <;> simp only [] at h <;> (try exact h.elim)
    all_goals
      unfold eqX at h
      simp only [] at h
      obtain ⟨b, hk, hg, hr⟩ := eqA_sound hτ t xs ys _ h
      refine ⟨_, hk, fun w => ?_⟩
    · simp only [Sem.run_bind, run_eqGuard_agg w _ t X Y xs ys hg, Result.andThen_ok, run_eql_struct, hr w]
    · simp only [Sem.run_bind, run_eqGuard_agg w _ t X Y xs ys hg, Result.andThen_ok, run_neq_struct, hr w]
  have hX : eqX τ t x y = eqD (lk τ.und t) x y := by
    funext K
    unfold eqX
    split
    · rename_i xs ys; exact (hagg ⟨xs, ys, rfl, rfl⟩).elim
    · rfl
  have hg : (∀ u, x ≠ .agg u) ∧ x ≠ .nilIface := by
    unfold binD at h
    split at h
    · simp
    · simp
    · cases op <;> simp only [] at h <;> (try exact h.elim)
      all_goals
        rw [hX] at h
        cases x <;> simp
        all_goals
          unfold eqD at h
          split at h <;> simp_all
  have key : ∀ v, Yld P (binOp op t x y) v → Yld P (do eqGuard op t X Y x y; binOp op t x y) v := by
    intro v hv w
    have := hv w
    simp only [Sem.run_bind, eqGuard_id op t X Y x y hg w, Result.andThen_ok, this]
  suffices ∃ v, K v ∧ Yld P (binOp op t x y) v from let ⟨v, h1, h2⟩ := this; ⟨v, h1, key v h2⟩
  unfold binD at h
  split at h
  · exact intD_sound op t _ _ _ _ K h
  · exact strD_sound op t _ _ K h
  · rename_i h1 h2
    cases op <;> simp only [] at h <;> (try exact h.elim)
    case eql =>
      rw [hX] at h
      obtain ⟨b, hk, hb⟩ := eqD_sound t hτ x y _ h
      refine ⟨_, hk, fun w => ?_⟩
      have : binOp .eql t x y = (do pure (Value.bool (← Op.equal t x y))) := by
        cases x <;> cases y <;> first | rfl | exact (h1 _ _ _ _ rfl rfl).elim | exact (h2 _ _ rfl rfl).elim | (exfalso; unfold eqD at h; split at h <;> simp_all)
      rw [this]
      simp [hb w]
    case neq =>
      rw [hX] at h
      obtain ⟨b, hk, hb⟩ := eqD_sound t hτ x y _ h
      refine ⟨_, hk, fun w => ?_⟩
      have : binOp .neq t x y = (do pure (Value.bool (!(← Op.equal t x y)))) := by
        cases x <;> cases y <;> first | rfl | exact (h1 _ _ _ _ rfl rfl).elim | exact (h2 _ _ rfl rfl).elim | (exfalso; unfold eqD at h; split at h <;> simp_all)
      rw [this]
      simp [hb w]
theorem ifD_sound (hτ : τ.Ok P) (op : BinOp) (t : Nat) (x : Value) (X : Operand) (K : Value → Prop) (hd : lk τ.und t = some .iface) (h : ifD op x K) :
    ∃ v, K v ∧ Yld P (do eqGuard op t X (.const .nilIface) x .nilIface; binOp op t x .nilIface) v := by
  obtain ⟨ms, hu⟩ := hτ.iface hd
  have hx : OkI x := by
    unfold ifD at h
    split at h
    · exact h.1
    · exact h.1
    · exact h.elim
  have he : ∀ w, (Op.equal t x .nilIface).run P w = .ok (isNilI x) w := by
    intro w
    rcases hx.h with rfl | ⟨a, b, rfl⟩
    · unfold Op.equal Op.maxDepth Op.equalIn; simp only [Sem.run_bind, run_underlying hu, Result.andThen_ok]; rfl
    · unfold Op.equal Op.maxDepth Op.equalIn; simp only [Sem.run_bind, run_underlying hu, Result.andThen_ok]; rfl
  have hg : ∀ w, (eqGuard op t X (.const .nilIface) x .nilIface).run P w = .ok () w := by
    intro w
    rcases hx.h with rfl | ⟨a, b, rfl⟩
    · unfold eqGuard; cases op <;> simp
    · unfold eqGuard; cases op <;> simp
  unfold ifD at h
  split at h
  · refine ⟨_, h.2, fun w => ?_⟩
    have : binOp .eql t x .nilIface = (do pure (Value.bool (← Op.equal t x .nilIface))) := by
      rcases hx.h with rfl | ⟨a, b, rfl⟩ <;> rfl
    simp only [Sem.run_bind, hg w, Result.andThen_ok, this, he w, Sem.run_pure]
  · refine ⟨_, h.2, fun w => ?_⟩
    have : binOp .neq t x .nilIface = (do pure (Value.bool (!(← Op.equal t x .nilIface)))) := by
      rcases hx.h with rfl | ⟨a, b, rfl⟩ <;> rfl
    simp only [Sem.run_bind, hg w, Result.andThen_ok, this, he w, Sem.run_pure]
  · exact h.elim
theorem binX_sound (hτ : τ.Ok P) (op : BinOp) (t : Nat) (X Y : Operand) (x y : Value) (hy : ∀ v, Y = .const v → y = v) (K : Value → Prop) (h : binX τ op t Y x y K) :
    ∃ v, K v ∧ Yld P (do eqGuard op t X Y x y; binOp op t x y) v := by
  unfold binX at h
  split at h
  · rename_i hi
    unfold isI at hi
    split at hi
    · rename_i hd
      split at hi
      · obtain rfl := hy _ rfl
        exact ifD_sound hτ op t x X K hd h
      · cases hi
    · cases hi
  · exact binD_sound hτ op t x y X Y K h
end
end Go.Proofs.YtihnjjmbcbfheaaDoor.V
