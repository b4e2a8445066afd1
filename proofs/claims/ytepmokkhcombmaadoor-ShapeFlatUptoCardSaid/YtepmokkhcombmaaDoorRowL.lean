/-
  A law's row that lists the library's variables, out of its walk.
-/
import Derived.Test.YtepmokkhcombmaaDoorRow
import Derived.Test.YtepmokkhcombmaaDoorShelf
import Derived.Test.YtepmokkhcombmaaDoorCards
import Derived.Test.YtepmokkhcombmaaDoorTie
import Derived.Deep.DeepHandedRow
import Derived.Lib.LaidTab
import Derived.Stop.LaidErr
namespace Go.Proofs.YtepmokkhcombmaaDoor.V
open Go Go.ChangeShapes Go.WideShapes Go.ChangeAt Go.RowKit
set_option linter.unusedVariables false
set_option maxRecDepth 100000

theorem lifted_laid (Fi : Stop.Interp) {os : Os} (started : os.Started) {H : Type} {enc : TypeId × Value → H} {F : FuncId} {fn : Func} {s : ChangeSpec} {domain : List PathCond} {laid : List (String × DataW Unit)} {tb : TypeId}
    (noInit : Tryd.checked.prog.inits.idxOf? F = none) (hfn : Tryd.checked.prog.funcs[F]? = some fn)
    (wit : ∃ (w : World) (tape : Tape) (i : Input), w.os = os ∧ (w.forCall tape i).Shaped Tryd.checked.prog ∧ i.vars = [] ∧ Input.okWide Tryd.checked.prog (w.forCall tape i) .any w.heap.size F i ∧
      (OpenSpec.ofChange s).preRow enc Tryd.checked.prog fn domain false laid (w.forCall tape i).memory i.args ∧ ({} : Assume).holds Tryd.checked.prog (lone (Frame.enter Tryd.checked.prog F i.args .normal) [] (w.forCall tape i)))
    (hvars : s.vars = []) (hspec : ∀ ds : List (DataW H), ds.length = fn.params.size → s.fn H ds = { results := [.lit (.bool true)], args := ds })
    (hres : fn.resultTypes = #[tb]) (hb : Tryd.prog.underlying tb = some .bool) (hts : ∀ t ∈ fn.params.toList, Tryd.prog.readableRec t = true ∧ t < Tryd.prog.types.size)
    {pars : List Par} (hpars : parsOk Tryd.prog fn.params.toList pars)
    (walk : ∀ (W : World) (args : Array Value) (x : PT pars), ArgsIs pars W args.toList x → laidMetH Tryd.prog laid W → Calls Tryd.prog F args W fun e W' => e = .returned (.bool true) ∧ Ext W W') :
    ReturnsInHanded {} Tryd.checked os F .any ((OpenSpec.ofChange s).preRow enc Tryd.prog fn domain false laid) (((OpenSpec.ofChange s).at Fi).post enc Tryd.prog fn false true false false) := by
  refine returnsInHanded_of_row (C := Tryd.checked) (s := OpenSpec.ofChange s) own started noInit hfn wit ?_
  intro W base args ds gs before hval hW _ _ hsz hL _ _
  exact contract_of (s := s) hvars hspec hres hb hts hpars hval hW hsz fun x hx => walk W args x hx hL

/-! ### this seat's variables -/
abbrev L5 : List (String × DataW Unit) := [("math/bits.deBruijn32tab", Rows.laid_math_bits_deBruijn32tab), ("math/bits.deBruijn64tab", Rows.laid_math_bits_deBruijn64tab), ("internal/strconv.uint64pow10", Rows.laid_internal_strconv_uint64pow10)]
theorem pow_is : Rows.laid_internal_strconv_uint64pow10 = Lib.tabData (H := Unit) .u64 Lib.pow10Tab := by kernel_rfl
def Lay (w : World) : Prop := Lib.TabIs Tryd.prog w "internal/strconv.uint64pow10" .u64 Lib.pow10Tab
theorem lay_of {W : World} (hH : laidMetH Tryd.prog L5 W) : Lay W := by
  have h : laidMet Tryd.prog L5 W := hH
  have h3 := h.tail.tail
  rw [pow_is] at h3
  exact Lib.tabIs_of_head (g := 0) (t := 83) (e := 28) (by kernel_rfl) (by kernel_rfl) Tryd.underlying83 Tryd.underlying28 (by kernel_rfl) (by kernel_rfl) h3
theorem var_ext {P : Program} {w w' : World} {name : String} {cs : Array Value} (h : w.var? P name = some cs) (x : Ext w w') : w'.var? P name = some cs := by
  unfold World.var? at h ⊢
  rw [Option.bind_eq_some_iff] at h ⊢
  obtain ⟨g, hg, h⟩ := h
  refine ⟨g, hg, ?_⟩
  have hlt : g < w.heap.size := by
    rcases Nat.lt_or_ge g w.heap.size with h1 | h1
    · exact h1
    · rw [Array.getElem?_eq_none h1] at h; cases h
  rw [x.block g hlt not_false]; exact h
theorem Lay.ext {w w' : World} (h : Lay w) (x : Ext w w') : Lay w' := var_ext h x
def vOf : DataW Unit → Value
  | .lit (.int k n) => .int k n
  | _ => undef
def tabCells : DataW Unit → Array Value
  | .agg l => (l.map vOf).toArray
  | _ => #[]
def putC (h : Array Obj) (g : Nat) (cs : Array Value) : Array Obj := h.modify g fun
  | .cells _ t frozen => .cells cs t frozen
  | o => o
noncomputable def laidWorld (os : Os) : World :=
  let w0 := World.holding Tryd.prog os ⟨#[], #[], []⟩
  { w0 with heap := putC (putC (putC w0.heap 0 (tabCells Rows.laid_internal_strconv_uint64pow10)) 1 (tabCells Rows.laid_math_bits_deBruijn32tab)) 2 (tabCells Rows.laid_math_bits_deBruijn64tab) }
theorem laid_met (os : Os) (args : Array Value) : laidMet Tryd.prog L5 ((laidWorld os).forCall (fun _ _ => 0) ⟨#[], args, []⟩).memory :=
  laidMet_of_run' 8 (by kernel_rfl) (by kernel_rfl)
end Go.Proofs.YtepmokkhcombmaaDoor.V
