/-
  The laws of num: the walks, as their rows want them.
-/
import Derived.Test.YtjdiclgnimimnaaDoorNumL
namespace Go.Proofs.YtjdiclgnimimnaaDoor.V
open Go Go.RowKit
set_option linter.unusedVariables false
theorem numwraps_walk (w : World) (L : Lay w) (v0 : Value) (x0 : Int) (h0 : (Par.one (.int .i64)).Is w v0 x0) : Calls Tryd.prog 3 #[v0] w fun e w' => e = .returned (.bool true) ∧ Ext w w' := by
  obtain ⟨rfl, _⟩ := h0
  exact numwraps_spec _ L
theorem numwrapped_walk (w : World) (L : Lay w) (v0 : Value) (x0 : Int) (h0 : (Par.one (.int .i64)).Is w v0 x0) : Calls Tryd.prog 7 #[v0] w fun e w' => e = .returned (.bool true) ∧ Ext w w' := by
  obtain ⟨rfl, _⟩ := h0
  exact numwrapped_spec _ L
theorem numdivides_walk (w : World) (L : Lay w) (v0 v1 : Value) (x0 x1 : Int) (h0 : (Par.one (.int .i64)).Is w v0 x0) (h1 : (Par.one (.int .i64)).Is w v1 x1) : Calls Tryd.prog 4 #[v0, v1] w fun e w' => e = .returned (.bool true) ∧ Ext w w' := by
  obtain ⟨rfl, _⟩ := h0
  obtain ⟨rfl, _⟩ := h1
  exact numdivides_spec _ _ L
theorem numreckons_walk (w : World) (L : Lay w) (v0 v1 : Value) (x0 x1 : Int) (h0 : (Par.one (.int .i64)).Is w v0 x0) (h1 : (Par.one (.int .i64)).Is w v1 x1) : Calls Tryd.prog 8 #[v0, v1] w fun e w' => e = .returned (.bool true) ∧ Ext w w' := by
  obtain ⟨rfl, _⟩ := h0
  obtain ⟨rfl, _⟩ := h1
  exact numreckons_spec _ _ L
theorem numleft_walk (w : World) (L : Lay w) (v0 v1 : Value) (x0 x1 : Int) (h0 : (Par.one (.int .i64)).Is w v0 x0) (h1 : (Par.one (.int .i64)).Is w v1 x1) : Calls Tryd.prog 10 #[v0, v1] w fun e w' => e = .returned (.bool true) ∧ Ext w w' := by
  obtain ⟨rfl, _⟩ := h0
  obtain ⟨rfl, _⟩ := h1
  exact numleft_spec _ _ L
theorem numring_walk (w : World) (L : Lay w) (v0 v1 v2 : Value) (x0 x1 x2 : Int) (h0 : (Par.one (.int .i64)).Is w v0 x0) (h1 : (Par.one (.int .i64)).Is w v1 x1) (h2 : (Par.one (.int .i64)).Is w v2 x2) : Calls Tryd.prog 9 #[v0, v1, v2] w fun e w' => e = .returned (.bool true) ∧ Ext w w' := by
  obtain ⟨rfl, _⟩ := h0
  obtain ⟨rfl, _⟩ := h1
  obtain ⟨rfl, _⟩ := h2
  exact numring_spec _ _ _ L
end Go.Proofs.YtjdiclgnimimnaaDoor.V
