/-
  The types of the program and its functions that have a body. By program (tab.py).
-/
import Derived.Test.YtihnjjmbcbfheaaDoorDenR
import Derived.Test.YtihnjjmbcbfheaaDoorRows
namespace Go.Proofs.YtihnjjmbcbfheaaDoor.V
open Go Go.RowKit
set_option linter.unusedVariables false
set_option linter.unusedSimpArgs false

def tabU : List (Nat × TD) := [(2, .int .i64), (3, .int .i64), (4, .bool), (5, .int .u8), (9, .string), (12, .int .u64), (13, .struct [(0, 9), (1, 12)]), (21, .int .i32), (22, .slice 5), (24, .pointer 51), (26, .iface), (29, .slice 62), (30, .int .i64), (33, .pointer 37), (35, .pointer 33), (36, .struct [(0, 3), (1, 30)]), (37, .struct [(0, 3), (1, 30)]), (42, .int .u64), (43, .struct [(0, 42), (1, 42)]), (44, .struct [(0, 42), (1, 42)]), (47, .pointer 87), (49, .map 85 44), (50, .struct [(0, 3), (1, 49)]), (51, .struct [(0, 3), (1, 49)]), (58, .pointer 61), (60, .struct [(0, 22), (1, 3), (2, 3), (3, 30)]), (61, .struct [(0, 22), (1, 3), (2, 3), (3, 30)]), (62, .slice 89), (78, .slice 3), (84, .struct [(0, 3), (1, 3)]), (85, .struct [(0, 3), (1, 3)]), (86, .struct [(0, 22), (1, 3), (2, 3), (3, 30)]), (87, .struct [(0, 22), (1, 3), (2, 3), (3, 30)]), (88, .struct [(0, 3), (1, 44)]), (89, .struct [(0, 3), (1, 44)]), (92, .pointer 150), (101, .slice 26), (107, .int .u64), (111, .int .i64), (120, .int .u32), (122, .int .u64), (126, .pointer 3), (129, .pointer 122), (141, .pointer 5), (153, .int .u16), (160, .pointer 26)]
def tabS : List (Nat × Nat × Nat × List Value) := [(2, 1, 8, [Value.int .i64 0]), (3, 1, 8, [Value.int .i64 0]), (4, 1, 1, [Value.bool false]), (5, 1, 1, [Value.int .u8 0]), (9, 1, 16, [Value.string ⟨#[]⟩]), (12, 1, 8, [Value.int .u64 0]), (13, 2, 24, [Value.string ⟨#[]⟩, Value.int .u64 0]), (21, 1, 4, [Value.int .i32 0]), (22, 1, 24, [Value.slice none 0 0]), (24, 1, 8, [Value.pointer none]), (29, 1, 24, [Value.slice none 0 0]), (30, 1, 8, [Value.int .i64 0]), (33, 1, 8, [Value.pointer none]), (35, 1, 8, [Value.pointer none]), (36, 2, 16, [Value.int .i64 0, Value.int .i64 0]), (37, 2, 16, [Value.int .i64 0, Value.int .i64 0]), (42, 1, 8, [Value.int .u64 0]), (43, 2, 16, [Value.int .u64 0, Value.int .u64 0]), (44, 2, 16, [Value.int .u64 0, Value.int .u64 0]), (47, 1, 8, [Value.pointer none]), (49, 1, 8, [Value.map none]), (50, 2, 16, [Value.int .i64 0, Value.map none]), (51, 2, 16, [Value.int .i64 0, Value.map none]), (58, 1, 8, [Value.pointer none]), (60, 4, 48, [Value.slice none 0 0, Value.int .i64 0, Value.int .i64 0, Value.int .i64 0]), (61, 4, 48, [Value.slice none 0 0, Value.int .i64 0, Value.int .i64 0, Value.int .i64 0]), (62, 1, 24, [Value.slice none 0 0]), (78, 1, 24, [Value.slice none 0 0]), (84, 2, 16, [Value.int .i64 0, Value.int .i64 0]), (85, 2, 16, [Value.int .i64 0, Value.int .i64 0]), (86, 4, 48, [Value.slice none 0 0, Value.int .i64 0, Value.int .i64 0, Value.int .i64 0]), (87, 4, 48, [Value.slice none 0 0, Value.int .i64 0, Value.int .i64 0, Value.int .i64 0]), (88, 3, 24, [Value.int .i64 0, Value.int .u64 0, Value.int .u64 0]), (89, 3, 24, [Value.int .i64 0, Value.int .u64 0, Value.int .u64 0]), (92, 1, 8, [Value.pointer none]), (101, 1, 24, [Value.slice none 0 0]), (107, 1, 8, [Value.int .u64 0]), (111, 1, 8, [Value.int .i64 0]), (120, 1, 4, [Value.int .u32 0]), (122, 1, 8, [Value.int .u64 0]), (126, 1, 8, [Value.pointer none]), (129, 1, 8, [Value.pointer none]), (141, 1, 8, [Value.pointer none]), (153, 1, 2, [Value.int .u16 0]), (160, 1, 8, [Value.pointer none])]
def tabH : List (Nat × Sh) := [(2, .int .i64), (3, .int .i64), (4, .bool), (5, .int .u8), (9, .str), (12, .int .u64), (13, .agg [.str, .int .u64]), (21, .int .i32), (22, .slice), (24, .ptr), (27, .tup [.ptr, .raw]), (29, .slice), (30, .int .i64), (31, .tup [.slice, .int .i64, .int .i64]), (33, .ptr), (35, .ptr), (36, .agg [.int .i64, .int .i64]), (37, .agg [.int .i64, .int .i64]), (42, .int .u64), (43, .agg [.int .u64, .int .u64]), (44, .agg [.int .u64, .int .u64]), (45, .tup [.agg [.int .u64, .int .u64], .bool]), (47, .ptr), (49, .map), (50, .agg [.int .i64, .map]), (51, .agg [.int .i64, .map]), (56, .tup [.int .i64, .int .i64]), (58, .ptr), (60, .agg [.slice, .int .i64, .int .i64, .int .i64]), (61, .agg [.slice, .int .i64, .int .i64, .int .i64]), (62, .slice), (78, .slice), (84, .agg [.int .i64, .int .i64]), (85, .agg [.int .i64, .int .i64]), (86, .agg [.slice, .int .i64, .int .i64, .int .i64]), (87, .agg [.slice, .int .i64, .int .i64, .int .i64]), (88, .agg [.int .i64, .int .u64, .int .u64]), (89, .agg [.int .i64, .int .u64, .int .u64]), (92, .ptr), (96, .tup [.raw, .bool]), (101, .slice), (104, .tup [.raw, .bool]), (107, .int .u64), (111, .int .i64), (112, .tup [.int .i64, .int .i64]), (117, .tup [.int .i64, .bool]), (120, .int .u32), (122, .int .u64), (126, .ptr), (129, .ptr), (130, .tup [.int .i64, .int .i64]), (141, .ptr), (153, .int .u16), (160, .ptr)]
def tabE : List Nat := [37, 44, 85]
def tabF : List Nat := [3, 4, 5, 6, 7, 8, 9, 10, 11, 12, 13, 14, 15, 16, 17, 18, 19, 20, 21, 22, 26, 28, 29, 30, 31, 32, 33, 34, 37, 38, 39, 40, 41, 42, 43, 44, 45, 46, 47, 48, 49, 50, 51, 52, 53, 54, 55, 56, 57, 77, 97]
def tab : Tab := { und := tabU, siz := tabS, sh := tabH, fns := tabF, eqs := tabE }
theorem tabU_all : ∀ x ∈ tabU, (Tryd.prog.underlying x.1).map strip = some x.2 := by
  unfold tabU
  refine List.forall_mem_cons.2 ⟨by kernel_rfl, ?_⟩
  refine List.forall_mem_cons.2 ⟨by kernel_rfl, ?_⟩
  refine List.forall_mem_cons.2 ⟨by kernel_rfl, ?_⟩
  refine List.forall_mem_cons.2 ⟨by kernel_rfl, ?_⟩
  refine List.forall_mem_cons.2 ⟨by kernel_rfl, ?_⟩
  refine List.forall_mem_cons.2 ⟨by kernel_rfl, ?_⟩
  refine List.forall_mem_cons.2 ⟨by kernel_rfl, ?_⟩
  refine List.forall_mem_cons.2 ⟨by kernel_rfl, ?_⟩
  refine List.forall_mem_cons.2 ⟨by kernel_rfl, ?_⟩
  refine List.forall_mem_cons.2 ⟨by kernel_rfl, ?_⟩
  refine List.forall_mem_cons.2 ⟨by kernel_rfl, ?_⟩
  refine List.forall_mem_cons.2 ⟨by kernel_rfl, ?_⟩
  refine List.forall_mem_cons.2 ⟨by kernel_rfl, ?_⟩
  refine List.forall_mem_cons.2 ⟨by kernel_rfl, ?_⟩
  refine List.forall_mem_cons.2 ⟨by kernel_rfl, ?_⟩
  refine List.forall_mem_cons.2 ⟨by kernel_rfl, ?_⟩
  refine List.forall_mem_cons.2 ⟨by kernel_rfl, ?_⟩
  refine List.forall_mem_cons.2 ⟨by kernel_rfl, ?_⟩
  refine List.forall_mem_cons.2 ⟨by kernel_rfl, ?_⟩
  refine List.forall_mem_cons.2 ⟨by kernel_rfl, ?_⟩
  refine List.forall_mem_cons.2 ⟨by kernel_rfl, ?_⟩
  refine List.forall_mem_cons.2 ⟨by kernel_rfl, ?_⟩
  refine List.forall_mem_cons.2 ⟨by kernel_rfl, ?_⟩
  refine List.forall_mem_cons.2 ⟨by kernel_rfl, ?_⟩
  refine List.forall_mem_cons.2 ⟨by kernel_rfl, ?_⟩
  refine List.forall_mem_cons.2 ⟨by kernel_rfl, ?_⟩
  refine List.forall_mem_cons.2 ⟨by kernel_rfl, ?_⟩
  refine List.forall_mem_cons.2 ⟨by kernel_rfl, ?_⟩
  refine List.forall_mem_cons.2 ⟨by kernel_rfl, ?_⟩
  refine List.forall_mem_cons.2 ⟨by kernel_rfl, ?_⟩
  refine List.forall_mem_cons.2 ⟨by kernel_rfl, ?_⟩
  refine List.forall_mem_cons.2 ⟨by kernel_rfl, ?_⟩
  refine List.forall_mem_cons.2 ⟨by kernel_rfl, ?_⟩
  refine List.forall_mem_cons.2 ⟨by kernel_rfl, ?_⟩
  refine List.forall_mem_cons.2 ⟨by kernel_rfl, ?_⟩
  refine List.forall_mem_cons.2 ⟨by kernel_rfl, ?_⟩
  refine List.forall_mem_cons.2 ⟨by kernel_rfl, ?_⟩
  refine List.forall_mem_cons.2 ⟨by kernel_rfl, ?_⟩
  refine List.forall_mem_cons.2 ⟨by kernel_rfl, ?_⟩
  refine List.forall_mem_cons.2 ⟨by kernel_rfl, ?_⟩
  refine List.forall_mem_cons.2 ⟨by kernel_rfl, ?_⟩
  refine List.forall_mem_cons.2 ⟨by kernel_rfl, ?_⟩
  refine List.forall_mem_cons.2 ⟨by kernel_rfl, ?_⟩
  refine List.forall_mem_cons.2 ⟨by kernel_rfl, ?_⟩
  refine List.forall_mem_cons.2 ⟨by kernel_rfl, ?_⟩
  refine List.forall_mem_cons.2 ⟨by kernel_rfl, ?_⟩
  exact fun _ h => nomatch h
theorem tabS_all : ∀ x ∈ tabS, (Tryd.prog.info? x.1).map (fun i => (i.size, i.bytes, x.2.2.2.length, i.zero.map fun z => z.cells)) = some (x.2.1, x.2.2.1, x.2.1, some x.2.2.2.toArray) := by
  unfold tabS
  refine List.forall_mem_cons.2 ⟨by kernel_rfl, ?_⟩
  refine List.forall_mem_cons.2 ⟨by kernel_rfl, ?_⟩
  refine List.forall_mem_cons.2 ⟨by kernel_rfl, ?_⟩
  refine List.forall_mem_cons.2 ⟨by kernel_rfl, ?_⟩
  refine List.forall_mem_cons.2 ⟨by kernel_rfl, ?_⟩
  refine List.forall_mem_cons.2 ⟨by kernel_rfl, ?_⟩
  refine List.forall_mem_cons.2 ⟨by kernel_rfl, ?_⟩
  refine List.forall_mem_cons.2 ⟨by kernel_rfl, ?_⟩
  refine List.forall_mem_cons.2 ⟨by kernel_rfl, ?_⟩
  refine List.forall_mem_cons.2 ⟨by kernel_rfl, ?_⟩
  refine List.forall_mem_cons.2 ⟨by kernel_rfl, ?_⟩
  refine List.forall_mem_cons.2 ⟨by kernel_rfl, ?_⟩
  refine List.forall_mem_cons.2 ⟨by kernel_rfl, ?_⟩
  refine List.forall_mem_cons.2 ⟨by kernel_rfl, ?_⟩
  refine List.forall_mem_cons.2 ⟨by kernel_rfl, ?_⟩
  refine List.forall_mem_cons.2 ⟨by kernel_rfl, ?_⟩
  refine List.forall_mem_cons.2 ⟨by kernel_rfl, ?_⟩
  refine List.forall_mem_cons.2 ⟨by kernel_rfl, ?_⟩
  refine List.forall_mem_cons.2 ⟨by kernel_rfl, ?_⟩
  refine List.forall_mem_cons.2 ⟨by kernel_rfl, ?_⟩
  refine List.forall_mem_cons.2 ⟨by kernel_rfl, ?_⟩
  refine List.forall_mem_cons.2 ⟨by kernel_rfl, ?_⟩
  refine List.forall_mem_cons.2 ⟨by kernel_rfl, ?_⟩
  refine List.forall_mem_cons.2 ⟨by kernel_rfl, ?_⟩
  refine List.forall_mem_cons.2 ⟨by kernel_rfl, ?_⟩
  refine List.forall_mem_cons.2 ⟨by kernel_rfl, ?_⟩
  refine List.forall_mem_cons.2 ⟨by kernel_rfl, ?_⟩
  refine List.forall_mem_cons.2 ⟨by kernel_rfl, ?_⟩
  refine List.forall_mem_cons.2 ⟨by kernel_rfl, ?_⟩
  refine List.forall_mem_cons.2 ⟨by kernel_rfl, ?_⟩
  refine List.forall_mem_cons.2 ⟨by kernel_rfl, ?_⟩
  refine List.forall_mem_cons.2 ⟨by kernel_rfl, ?_⟩
  refine List.forall_mem_cons.2 ⟨by kernel_rfl, ?_⟩
  refine List.forall_mem_cons.2 ⟨by kernel_rfl, ?_⟩
  refine List.forall_mem_cons.2 ⟨by kernel_rfl, ?_⟩
  refine List.forall_mem_cons.2 ⟨by kernel_rfl, ?_⟩
  refine List.forall_mem_cons.2 ⟨by kernel_rfl, ?_⟩
  refine List.forall_mem_cons.2 ⟨by kernel_rfl, ?_⟩
  refine List.forall_mem_cons.2 ⟨by kernel_rfl, ?_⟩
  refine List.forall_mem_cons.2 ⟨by kernel_rfl, ?_⟩
  refine List.forall_mem_cons.2 ⟨by kernel_rfl, ?_⟩
  refine List.forall_mem_cons.2 ⟨by kernel_rfl, ?_⟩
  refine List.forall_mem_cons.2 ⟨by kernel_rfl, ?_⟩
  refine List.forall_mem_cons.2 ⟨by kernel_rfl, ?_⟩
  refine List.forall_mem_cons.2 ⟨by kernel_rfl, ?_⟩
  exact fun _ h => nomatch h
theorem tabF_all : ∀ x ∈ tabF, (Tryd.prog.funcs[x]?).map (fun fn => (fn.name == "runtime.NumGoroutine", fn.body.isNone)) = some (false, false) := by
  unfold tabF
  refine List.forall_mem_cons.2 ⟨by kernel_rfl, ?_⟩
  refine List.forall_mem_cons.2 ⟨by kernel_rfl, ?_⟩
  refine List.forall_mem_cons.2 ⟨by kernel_rfl, ?_⟩
  refine List.forall_mem_cons.2 ⟨by kernel_rfl, ?_⟩
  refine List.forall_mem_cons.2 ⟨by kernel_rfl, ?_⟩
  refine List.forall_mem_cons.2 ⟨by kernel_rfl, ?_⟩
  refine List.forall_mem_cons.2 ⟨by kernel_rfl, ?_⟩
  refine List.forall_mem_cons.2 ⟨by kernel_rfl, ?_⟩
  refine List.forall_mem_cons.2 ⟨by kernel_rfl, ?_⟩
  refine List.forall_mem_cons.2 ⟨by kernel_rfl, ?_⟩
  refine List.forall_mem_cons.2 ⟨by kernel_rfl, ?_⟩
  refine List.forall_mem_cons.2 ⟨by kernel_rfl, ?_⟩
  refine List.forall_mem_cons.2 ⟨by kernel_rfl, ?_⟩
  refine List.forall_mem_cons.2 ⟨by kernel_rfl, ?_⟩
  refine List.forall_mem_cons.2 ⟨by kernel_rfl, ?_⟩
  refine List.forall_mem_cons.2 ⟨by kernel_rfl, ?_⟩
  refine List.forall_mem_cons.2 ⟨by kernel_rfl, ?_⟩
  refine List.forall_mem_cons.2 ⟨by kernel_rfl, ?_⟩
  refine List.forall_mem_cons.2 ⟨by kernel_rfl, ?_⟩
  refine List.forall_mem_cons.2 ⟨by kernel_rfl, ?_⟩
  refine List.forall_mem_cons.2 ⟨by kernel_rfl, ?_⟩
  refine List.forall_mem_cons.2 ⟨by kernel_rfl, ?_⟩
  refine List.forall_mem_cons.2 ⟨by kernel_rfl, ?_⟩
  refine List.forall_mem_cons.2 ⟨by kernel_rfl, ?_⟩
  refine List.forall_mem_cons.2 ⟨by kernel_rfl, ?_⟩
  refine List.forall_mem_cons.2 ⟨by kernel_rfl, ?_⟩
  refine List.forall_mem_cons.2 ⟨by kernel_rfl, ?_⟩
  refine List.forall_mem_cons.2 ⟨by kernel_rfl, ?_⟩
  refine List.forall_mem_cons.2 ⟨by kernel_rfl, ?_⟩
  refine List.forall_mem_cons.2 ⟨by kernel_rfl, ?_⟩
  refine List.forall_mem_cons.2 ⟨by kernel_rfl, ?_⟩
  refine List.forall_mem_cons.2 ⟨by kernel_rfl, ?_⟩
  refine List.forall_mem_cons.2 ⟨by kernel_rfl, ?_⟩
  refine List.forall_mem_cons.2 ⟨by kernel_rfl, ?_⟩
  refine List.forall_mem_cons.2 ⟨by kernel_rfl, ?_⟩
  refine List.forall_mem_cons.2 ⟨by kernel_rfl, ?_⟩
  refine List.forall_mem_cons.2 ⟨by kernel_rfl, ?_⟩
  refine List.forall_mem_cons.2 ⟨by kernel_rfl, ?_⟩
  refine List.forall_mem_cons.2 ⟨by kernel_rfl, ?_⟩
  refine List.forall_mem_cons.2 ⟨by kernel_rfl, ?_⟩
  refine List.forall_mem_cons.2 ⟨by kernel_rfl, ?_⟩
  refine List.forall_mem_cons.2 ⟨by kernel_rfl, ?_⟩
  refine List.forall_mem_cons.2 ⟨by kernel_rfl, ?_⟩
  refine List.forall_mem_cons.2 ⟨by kernel_rfl, ?_⟩
  refine List.forall_mem_cons.2 ⟨by kernel_rfl, ?_⟩
  refine List.forall_mem_cons.2 ⟨by kernel_rfl, ?_⟩
  refine List.forall_mem_cons.2 ⟨by kernel_rfl, ?_⟩
  refine List.forall_mem_cons.2 ⟨by kernel_rfl, ?_⟩
  refine List.forall_mem_cons.2 ⟨by kernel_rfl, ?_⟩
  refine List.forall_mem_cons.2 ⟨by kernel_rfl, ?_⟩
  refine List.forall_mem_cons.2 ⟨by kernel_rfl, ?_⟩
  exact fun _ h => nomatch h
theorem tabE_all : ∀ x ∈ tabE, (Tryd.prog.eqGuardType Tryd.prog.depth x, Tryd.prog.stoodInHeld x, (Tryd.prog.fieldsOf x).toList.all fun f => f.name != "_") = (false, false, true) := by
  unfold tabE
  refine List.forall_mem_cons.2 ⟨by kernel_rfl, ?_⟩
  refine List.forall_mem_cons.2 ⟨by kernel_rfl, ?_⟩
  refine List.forall_mem_cons.2 ⟨by kernel_rfl, ?_⟩
  exact fun _ h => nomatch h
theorem tab_ok : tab.Ok Tryd.prog := ⟨tabOk_und _ tabU_all, tabOk_siz _ tabS_all, tabOk_fns _ tabF_all, by kernel_rfl, tabOk_eqs _ tabE_all⟩
end Go.Proofs.YtihnjjmbcbfheaaDoor.V
