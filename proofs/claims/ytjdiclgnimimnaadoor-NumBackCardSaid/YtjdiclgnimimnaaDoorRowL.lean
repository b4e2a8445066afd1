/-
  A law's row that lists the library's variables, out of its walk.
-/
import Derived.Test.YtjdiclgnimimnaaDoorRow
import Derived.Test.YtjdiclgnimimnaaDoorNumL
import Derived.Test.YtjdiclgnimimnaaDoorCards
import Derived.Test.YtjdiclgnimimnaaDoorTie
import Derived.Deep.DeepHandedRow
import Derived.Lib.LaidTab
import Derived.Stop.LaidErr
namespace Go.Proofs.YtjdiclgnimimnaaDoor.V
open Go Go.ChangeShapes Go.WideShapes Go.ChangeAt Go.RowKit
set_option linter.unusedVariables false

theorem lifted_laid (Fi : Stop.Interp) {os : Os} (started : os.Started) {H : Type} {enc : TypeId × Value → H} {F : FuncId} {fn : Func} {s : ChangeSpec} {domain : List PathCond} {laid : List (String × DataW Unit)} {tb : TypeId}
    (noInit : Tryd.checked.prog.inits.idxOf? F = none) (hfn : Tryd.checked.prog.funcs[F]? = some fn)
    (wit : ∃ (w : World) (tape : Tape) (i : Input), w.os = os ∧ (w.forCall tape i).Shaped Tryd.checked.prog ∧ i.vars = [] ∧ Input.okWide Tryd.checked.prog (w.forCall tape i) .any w.heap.size F i ∧
      (OpenSpec.ofChange s).preRow enc Tryd.checked.prog fn domain false laid (w.forCall tape i).memory i.args ∧ ({} : Assume).holds Tryd.checked.prog (lone (Frame.enter Tryd.checked.prog F i.args .normal) [] (w.forCall tape i)))
    (hvars : s.vars = []) (hspec : ∀ ds : List (DataW H), ds.length = fn.params.size → s.fn H ds = { results := [.lit (.bool true)], args := ds })
    (hres : fn.resultTypes = #[tb]) (hb : Tryd.prog.underlying tb = some .bool) (hts : ∀ t ∈ fn.params.toList, Tryd.prog.readableRec t = true ∧ t < Tryd.prog.types.size)
    {pars : List Par} (hpars : parsOk Tryd.prog fn.params.toList pars)
    (walk : ∀ (W : World) (args : Array Value) (x : PT pars), ArgsIs pars W args.toList x → laidMetH Tryd.prog laid W → Calls Tryd.prog F args W fun e W' => e = .returned (.bool true) ∧ Ext W W') :
    ReturnsInHanded {} Tryd.checked os F .any ((OpenSpec.ofChange s).preRow enc Tryd.prog fn domain false laid) (((OpenSpec.ofChange s).at Fi).post enc Tryd.prog fn false true false false) := by
  refine returnsInHanded_of_row (C := Tryd.checked) (s := OpenSpec.ofChange s) own started noInit hfn wit ?_
  intro W base args ds gs before hval hW _ _ hsz hL _ _
  exact contract_of (s := s) hvars hspec hres hb hts hpars hval hW hsz fun x hx => walk W args x hx hL

/-! ### this seat's variables -/
theorem star : "*" ++ "errors.errorString" = "*errors.errorString" := by decide
theorem rowE (u : TypeId) (h : Tryd.prog.typeName? 3 u = some "*errors.errorString") : u = 71 :=
  typeName_ptr_named (nm := "errors.errorString") (by rw [star]; kernel_rfl) (by kernel_rfl) (by decide) u (by rw [star]; exact h)
abbrev L5 : List (String × DataW Unit) := [("math/bits.deBruijn32tab", Rows.laid_math_bits_deBruijn32tab), ("math/bits.deBruijn64tab", Rows.laid_math_bits_deBruijn64tab), ("internal/strconv.uint64pow10", Rows.laid_internal_strconv_uint64pow10), ("strconv.ErrRange", Rows.laid_strconv_ErrRange), ("strconv.ErrSyntax", Rows.laid_strconv_ErrSyntax)]
theorem pow_is : Rows.laid_internal_strconv_uint64pow10 = Lib.tabData (H := Unit) .u64 Lib.pow10Tab := by kernel_rfl
theorem lay_of {W : World} (hH : laidMetH Tryd.prog L5 W) : Lay W := by
  have h : laidMet Tryd.prog L5 W := hH
  have h3 := h.tail.tail
  have h4 := h3.tail
  have h5 := h4.tail
  rw [pow_is] at h3
  refine ⟨Lib.tabIs_of_head (g := 2) (t := 65) (e := 31) (by kernel_rfl) (by kernel_rfl) Tryd.underlying65 Tryd.underlying31 (by kernel_rfl) (by kernel_rfl) h3, ?_, ?_⟩
  · obtain ⟨a, s, h1, _⟩ := laid_sentinel (g := 0) (ti := 39) (tp := 71) (te := 73) (ts := 9) h5 (by kernel_rfl) (by kernel_rfl) Tryd.underlying39 rowE Tryd.underlying71 Tryd.underlying73 rfl rfl Tryd.underlying9 (by kernel_rfl) (by kernel_rfl)
    exact ⟨_, _, h1⟩
  · obtain ⟨a, s, h1, _⟩ := laid_sentinel (g := 1) (ti := 39) (tp := 71) (te := 73) (ts := 9) h4 (by kernel_rfl) (by kernel_rfl) Tryd.underlying39 rowE Tryd.underlying71 Tryd.underlying73 rfl rfl Tryd.underlying9 (by kernel_rfl) (by kernel_rfl)
    exact ⟨_, _, h1⟩
def vOf : DataW Unit → Value
  | .lit (.int k n) => .int k n
  | _ => undef
def tabCells : DataW Unit → Array Value
  | .agg l => (l.map vOf).toArray
  | _ => #[]
abbrev synS : ByteArray := { data := #[105, 110, 118, 97, 108, 105, 100, 32, 115, 121, 110, 116, 97, 120] }
abbrev ranS : ByteArray := { data := #[118, 97, 108, 117, 101, 32, 111, 117, 116, 32, 111, 102, 32, 114, 97, 110, 103, 101] }
noncomputable def low : Nat := (World.holding Tryd.prog default ⟨#[], #[], []⟩).heap.size
def putC (h : Array Obj) (g : Nat) (cs : Array Value) : Array Obj := h.modify g fun
  | .cells _ t frozen => .cells cs t frozen
  | o => o
noncomputable def laidWorld (os : Os) : World :=
  let w0 := World.holding Tryd.prog os ⟨#[.cells #[.string synS] 73, .cells #[.string ranS] 73], #[], []⟩
  { w0 with heap := putC (putC (putC (putC (putC w0.heap 0 #[.iface 71 (.pointer (some ⟨low, 0, none⟩))]) 1 #[.iface 71 (.pointer (some ⟨low + 1, 0, none⟩))]) 2 (tabCells Rows.laid_internal_strconv_uint64pow10)) 3 (tabCells Rows.laid_math_bits_deBruijn32tab)) 4 (tabCells Rows.laid_math_bits_deBruijn64tab) }
theorem laid_met (os : Os) (args : Array Value) : laidMet Tryd.prog L5 ((laidWorld os).forCall (fun _ _ => 0) ⟨#[], args, []⟩).memory :=
  laidMet_of_run' 8 (by kernel_rfl) (by kernel_rfl)
end Go.Proofs.YtjdiclgnimimnaaDoor.V
