/-
  The operations that leave the world alone do what 'pureD' says.
-/
import Derived.Test.YtodbmiflnellcaaOps
namespace Go.Proofs.Ytodbmiflnellcaa.V
open Go Go.RowKit

section
variable {P : Program} {τ : Tab}
/-- yields v in every world, which stays -/
def Yld (P : Program) (m : Sem Value) (v : Value) : Prop := ∀ w, m.run P w = .ok v w

theorem eqGuard_id (op : BinOp) (t : Nat) (x y : Operand) (a b : Value) (h : (∀ u, a ≠ .agg u) ∧ a ≠ .nilIface) (w : World) :
    (eqGuard op t x y a b).run P w = .ok () w := by
  unfold eqGuard
  cases op <;> simp <;> (cases a <;> simp_all)

theorem intD_sound (op : BinOp) (t : Nat) (k k' : IntKind) (x y : Int) (K : Value → Prop) (h : intD op k k' x y K) :
    ∃ v, K v ∧ Yld P (binOp op t (.int k x) (.int k' y)) v := by
  unfold Yld
  cases op <;> simp only [intD] at h
  case shl => exact ⟨_, h.2, fun w => by simp [binOp, Op.shift, shlV, show ¬ y < 0 by omega]⟩
  case shr => exact ⟨_, h.2, fun w => by simp [binOp, Op.shift, shrV, show ¬ y < 0 by omega]⟩
  case quo => obtain ⟨rfl, h0, h⟩ := h; exact ⟨_, h, fun w => by simp [binOp, Op.intDiv, h0]⟩
  case rem => obtain ⟨rfl, h0, h⟩ := h; exact ⟨_, h, fun w => by simp [binOp, Op.intDiv, h0]⟩
  all_goals obtain ⟨rfl, h⟩ := h
  case add => exact ⟨_, h, fun w => by simp [binOp, Op.intArith]⟩
  case sub => exact ⟨_, h, fun w => by simp [binOp, Op.intArith]⟩
  case mul => exact ⟨_, h, fun w => by simp [binOp, Op.intArith]⟩
  case and => exact ⟨_, h, fun w => by simp [binOp, Op.intBits, bitV]⟩
  case or => exact ⟨_, h, fun w => by simp [binOp, Op.intBits, bitV]⟩
  case xor => exact ⟨_, h, fun w => by simp [binOp, Op.intBits, bitV]⟩
  case andNot => exact ⟨_, h, fun w => by simp [binOp, Op.intBits, bitV]⟩
  all_goals exact ⟨_, h, fun w => by simp [binOp, Op.intCmp]⟩

theorem strD_sound (op : BinOp) (t : Nat) (x y : ByteArray) (K : Value → Prop) (h : strD op x y K) :
    ∃ v, K v ∧ Yld P (binOp op t (.string x) (.string y)) v := by
  unfold Yld
  cases op <;> simp only [strD] at h
  case add => exact ⟨_, h.2, fun w => by simp [binOp, Op.stringOp, IntKind.max, IntKind.signed, IntKind.bits]; omega⟩
  all_goals exact ⟨_, h, fun w => by simp [binOp, Op.stringOp]⟩

theorem eqD_sound (t : Nat) (hτ : τ.Ok P) (x y : Value) (K : Bool → Prop) (h : eqD (lk τ.und t) x y K) :
    ∃ b, K b ∧ ∀ w, (Op.equal t x y).run P w = .ok b w := by
  cases hd : lk τ.und t with
  | none => rw [hd] at h; simp [eqD] at h
  | some d =>
    rw [hd] at h
    unfold eqD at h
    split at h <;> first | exact h.elim | skip
    all_goals rename_i heq <;> injection heq with heq <;> subst heq
    · have hu := hτ.bool hd
      exact ⟨_, h, fun w => by unfold Op.equal Op.maxDepth Op.equalIn; simp only [Sem.run_bind, run_underlying hu, Result.andThen_ok]; rfl⟩
    · rename_i a b
      have hu := hτ.pointer hd
      unfold nilEq at h
      split at h
      · refine ⟨_, h, fun w => ?_⟩
        unfold Op.equal Op.maxDepth Op.equalIn; simp only [Sem.run_bind, run_underlying hu, Result.andThen_ok]
        cases a <;> rfl
      · split at h
        · refine ⟨_, h, fun w => ?_⟩
          unfold Op.equal Op.maxDepth Op.equalIn; simp only [Sem.run_bind, run_underlying hu, Result.andThen_ok]
          rfl
        · exact h.elim
    · rename_i a _ _ b _ _
      have hu := hτ.slice hd
      unfold nilEq at h
      split at h
      · refine ⟨_, h, fun w => ?_⟩
        unfold Op.equal Op.maxDepth Op.equalIn; simp only [Sem.run_bind, run_underlying hu, Result.andThen_ok]
        cases a <;> rfl
      · split at h
        · refine ⟨_, h, fun w => ?_⟩
          unfold Op.equal Op.maxDepth Op.equalIn; simp only [Sem.run_bind, run_underlying hu, Result.andThen_ok]
          rfl
        · exact h.elim
    all_goals
      obtain ⟨_, _, _, hu⟩ := hτ.func hd
      exact ⟨_, h, fun w => by unfold Op.equal Op.maxDepth Op.equalIn; simp only [Sem.run_bind, run_underlying hu, Result.andThen_ok]; rfl⟩

theorem binD_sound (hτ : τ.Ok P) (op : BinOp) (t : Nat) (x y : Value) (X Y : Operand) (K : Value → Prop) (h : binD τ op t x y K) :
    ∃ v, K v ∧ Yld P (do eqGuard op t X Y x y; binOp op t x y) v := by
  have hg : (∀ u, x ≠ .agg u) ∧ x ≠ .nilIface := by
    unfold binD at h
    split at h
    · simp
    · simp
    · cases x <;> simp
      all_goals
        cases op <;> simp only [] at h <;> (try exact h)
        all_goals
          unfold eqD at h
          split at h <;> simp_all
  have key : ∀ v, Yld P (binOp op t x y) v → Yld P (do eqGuard op t X Y x y; binOp op t x y) v := by
    intro v hv w
    have := hv w
    simp only [Sem.run_bind, eqGuard_id op t X Y x y hg w, Result.andThen_ok, this]
  suffices ∃ v, K v ∧ Yld P (binOp op t x y) v from let ⟨v, h1, h2⟩ := this; ⟨v, h1, key v h2⟩
  unfold binD at h
  split at h
  · exact intD_sound op t _ _ _ _ K h
  · exact strD_sound op t _ _ K h
  · rename_i h1 h2
    cases op <;> simp only [] at h <;> (try exact h.elim)
    case eql =>
      obtain ⟨b, hk, hb⟩ := eqD_sound t hτ x y _ h
      refine ⟨_, hk, fun w => ?_⟩
      have : binOp .eql t x y = (do pure (Value.bool (← Op.equal t x y))) := by
        cases x <;> cases y <;> first | rfl | exact (h1 _ _ _ _ rfl rfl).elim | exact (h2 _ _ rfl rfl).elim | (exfalso; unfold eqD at h; split at h <;> simp_all)
      rw [this]
      simp [hb w]
    case neq =>
      obtain ⟨b, hk, hb⟩ := eqD_sound t hτ x y _ h
      refine ⟨_, hk, fun w => ?_⟩
      have : binOp .neq t x y = (do pure (Value.bool (!(← Op.equal t x y)))) := by
        cases x <;> cases y <;> first | rfl | exact (h1 _ _ _ _ rfl rfl).elim | exact (h2 _ _ rfl rfl).elim | (exfalso; unfold eqD at h; split at h <;> simp_all)
      rw [this]
      simp [hb w]
theorem ifD_sound (hτ : τ.Ok P) (op : BinOp) (t : Nat) (x : Value) (X : Operand) (K : Value → Prop) (hd : lk τ.und t = some .iface) (h : ifD op x K) :
    ∃ v, K v ∧ Yld P (do eqGuard op t X (.const .nilIface) x .nilIface; binOp op t x .nilIface) v := by
  obtain ⟨ms, hu⟩ := hτ.iface hd
  have hx : OkI x := by
    unfold ifD at h
    split at h
    · exact h.1
    · exact h.1
    · exact h.elim
  have he : ∀ w, (Op.equal t x .nilIface).run P w = .ok (isNilI x) w := by
    intro w
    rcases hx.h with rfl | ⟨a, b, rfl⟩
    · unfold Op.equal Op.maxDepth Op.equalIn; simp only [Sem.run_bind, run_underlying hu, Result.andThen_ok]; rfl
    · unfold Op.equal Op.maxDepth Op.equalIn; simp only [Sem.run_bind, run_underlying hu, Result.andThen_ok]; rfl
  have hg : ∀ w, (eqGuard op t X (.const .nilIface) x .nilIface).run P w = .ok () w := by
    intro w
    rcases hx.h with rfl | ⟨a, b, rfl⟩
    · unfold eqGuard; cases op <;> simp
    · unfold eqGuard; cases op <;> simp
  unfold ifD at h
  split at h
  · refine ⟨_, h.2, fun w => ?_⟩
    have : binOp .eql t x .nilIface = (do pure (Value.bool (← Op.equal t x .nilIface))) := by
      rcases hx.h with rfl | ⟨a, b, rfl⟩ <;> rfl
    simp only [Sem.run_bind, hg w, Result.andThen_ok, this, he w, Sem.run_pure]
  · refine ⟨_, h.2, fun w => ?_⟩
    have : binOp .neq t x .nilIface = (do pure (Value.bool (!(← Op.equal t x .nilIface)))) := by
      rcases hx.h with rfl | ⟨a, b, rfl⟩ <;> rfl
    simp only [Sem.run_bind, hg w, Result.andThen_ok, this, he w, Sem.run_pure]
  · exact h.elim
theorem binX_sound (hτ : τ.Ok P) (op : BinOp) (t : Nat) (X Y : Operand) (x y : Value) (hy : ∀ v, Y = .const v → y = v) (K : Value → Prop) (h : binX τ op t Y x y K) :
    ∃ v, K v ∧ Yld P (do eqGuard op t X Y x y; binOp op t x y) v := by
  unfold binX at h
  split at h
  · rename_i hi
    unfold isI at hi
    split at hi
    · rename_i hd
      split at hi
      · obtain rfl := hy _ rfl
        exact ifD_sound hτ op t x X K hd h
      · cases hi
    · cases hi
  · exact binD_sound hτ op t x y X Y K h
end
end Go.Proofs.Ytodbmiflnellcaa.V
