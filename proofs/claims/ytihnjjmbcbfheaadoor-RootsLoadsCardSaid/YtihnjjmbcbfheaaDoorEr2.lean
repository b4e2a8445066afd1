/-
  errors.Is: an *api.Fault, held against a number of the program's own: it unwraps to its number.
-/
import Derived.Test.YtihnjjmbcbfheaaDoorEr1
import Derived.Lib.IfaceEq
namespace Go.Proofs.YtihnjjmbcbfheaaDoor.V
open Go Go.RowKit Go.Extern.Stop Go.Stop Go.Extern
set_option linter.unusedVariables false
set_option linter.unusedSimpArgs false

theorem ei_typeOf (v : Value) (w : World) : (Extern.ReflectliteType.typeOf #[.iface 30 v]).run Tryd.prog w = .ok (.iface 91 (.agg #[.pointer (some ⟨1, 30, none⟩)])) w := by kernel_rfl
theorem ei_comparable (w : World) : (callFunc 84 #[.agg #[.pointer (some ⟨1, 30, none⟩)]]).run Tryd.prog w = .ok (.value (.bool true)) w := by kernel_rfl
theorem ei_method (v : Value) (w : World) : (Go.method 261 91 v "Comparable").run Tryd.prog w = .ok (84, v) w := by kernel_rfl
theorem ei_comp : (Tryd.prog.info? 30).map (·.comparable) = some true := by kernel_rfl
theorem ei_noIs (v : Value) (xT : TypeId) (w : World) : (Instr.typeAssert (.iface 33 v) xT 103 true).run Tryd.prog w = .ok (.tuple #[.nilIface, .bool false]) w := run_typeAssert_lacksB Tryd.underlying103 (by kernel_rfl) (by kernel_rfl) v xT w
theorem ei_hasUnwrap (v : Value) (xT : TypeId) (w : World) : (Instr.typeAssert (.iface 33 v) xT 98 true).run Tryd.prog w = .ok (.tuple #[.iface 33 v, .bool true]) w := run_typeAssert_hasB Tryd.underlying98 (by kernel_rfl) v xT w
theorem ei_unwrap (v : Value) (w : World) : (Go.method 261 33 v "Unwrap").run Tryd.prog w = .ok (77, v) w := by kernel_rfl
set_option maxHeartbeats 4000000 in
theorem is_hit (p : Nat) (n : Int) (w : World) (h1 : w.cell? ⟨p, 1, none⟩ = some (.int .i64 n)) :
    Calls Tryd.prog 8 #[.iface 33 (.pointer (some ⟨p, 0, none⟩)), .iface 30 (.int .i64 n)] w fun e w' => e = .returned (.bool true) ∧ w' = w := by
  have h27 := @run_callFunc_extern Tryd.prog 27 _ Extern.ReflectliteType.typeOf Tryd.func27 (by kernel_rfl) (by kernel_rfl) (by kernel_rfl) (by kernel_rfl)
  have tT := ei_typeOf
  have cT := ei_comparable
  have mR := ei_method
  have nE := ei_noIs
  have uW := ei_hasUnwrap
  have mU := ei_unwrap
  have hty := run_eql_iface_types (P := Tryd.prog) 33 30 (.pointer (some ⟨p, 0, none⟩)) (.int .i64 n) Tryd.underlying26 (by decide) w
  have heq := Lib.run_eql_iface_int (P := Tryd.prog) (k := .i64) w n n Tryd.underlying26 ei_comp Tryd.underlying30
  go_enter Tryd.func8, Tryd.ntmps8
  go_wp2
  refine wp_loop_rounds 2 ?_
  rw [rounds_succ]
  go_wp2
  rw [rounds_succ]
  go_wp2
  go_ret
  exact ⟨rfl, rfl⟩
end Go.Proofs.YtihnjjmbcbfheaaDoor.V
