/-
  LebBack: the walk, as its row wants it.
-/
import Derived.Test.YtbkoagepkjpalaaLebB
import Derived.Test.YtbkoagepkjpalaaUpto
namespace Go.Proofs.Ytbkoagepkjpalaa.V
open Go Go.RowKit
set_option linter.unusedVariables false
theorem sum_ge {α : Type} (f : α → Nat) (h : ∀ a, 1 ≤ f a) : ∀ l : List α, l.length ≤ (l.map f).sum
  | [] => Nat.zero_le _
  | a :: l => by have := sum_ge f h l; have := h a; simp only [List.length_cons, List.map_cons, List.sum_cons]; omega
theorem lebback_walk (w : World) (v0 v1 v2 : Value) (x0 : (Par.one (.sl 8 (.cons (.int .u64) (.nil)))).T) (x1 : (Par.one (.sl 8 (.cons (.int .i64) (.nil)))).T) (x2 : (Par.one (.sl 1 (.cons (.int .u8) (.nil)))).T)
    (h0 : (Par.one (.sl 8 (.cons (.int .u64) (.nil)))).Is w v0 x0) (h1 : (Par.one (.sl 8 (.cons (.int .i64) (.nil)))).Is w v1 x1) (h2 : (Par.one (.sl 1 (.cons (.int .u8) (.nil)))).Is w v2 x2)
    (hbk : (Par.one (.sl 8 (.cons (.int .u64) (.nil)))).bulk x0 + ((Par.one (.sl 8 (.cons (.int .i64) (.nil)))).bulk x1 + ((Par.one (.sl 1 (.cons (.int .u8) (.nil)))).bulk x2 + 0)) ≤ 1048576) :
    Calls Try.prog 7 #[v0, v1, v2] w fun e w' => e = .returned (.bool true) ∧ Ext w w' := by
  have b0 : x0.2.length + 1 ≤ (Par.one (.sl 8 (.cons (.int .u64) (.nil)))).bulk x0 := Nat.succ_le_succ (sum_ge _ (fun _ => Nat.le_refl 1) x0.2)
  have b2 : x2.2.length + 1 ≤ (Par.one (.sl 1 (.cons (.int .u8) (.nil)))).bulk x2 := Nat.succ_le_succ (sum_ge _ (fun _ => Nat.le_refl 1) x2.2)
  have n0 : x0.2.length = x0.1.n := h0.2.1
  have n2 : x2.2.length = x2.1.n := h2.2.1
  obtain ⟨rfl, _, _, _, ns, hs, h8⟩ := is_words h0
  obtain ⟨rfl, _, _, _, is, ht, hi⟩ := is_ints h1
  obtain ⟨rfl, _, _, _, bs, hu, hb⟩ := is_bytes h2
  exact lebback_spec x0.1 x1.1 x2.1 ns is bs w hs ht hu h8 hi hb (by omega) (by omega)
end Go.Proofs.Ytbkoagepkjpalaa.V
