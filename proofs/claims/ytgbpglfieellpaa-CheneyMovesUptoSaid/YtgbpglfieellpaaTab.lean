/-
  The types of the program and its functions that have a body. By program (tab.py).
-/
import Derived.Test.YtgbpglfieellpaaDenR
import Derived.Test.YtgbpglfieellpaaRows
namespace Go.Proofs.Ytgbpglfieellpaa.V
open Go Go.RowKit
set_option linter.unusedVariables false
set_option linter.unusedSimpArgs false

def tabU : List (Nat × TD) := [(2, .int .i64), (3, .int .i64), (4, .bool), (5, .int .u8), (9, .string), (12, .int .u64), (13, .struct [(0, 9), (1, 12)]), (21, .int .i32), (22, .slice 45), (23, .int .u64), (25, .pointer 76), (26, .int .i64), (30, .slice 23), (32, .slice 3), (37, .func), (38, .struct [(0, 30), (1, 3), (2, 26), (3, 3), (4, 37)]), (39, .struct [(0, 30), (1, 3), (2, 26), (3, 3), (4, 37)]), (44, .struct [(0, 3), (1, 3), (2, 30), (3, 32)]), (45, .struct [(0, 3), (1, 3), (2, 30), (3, 32)]), (50, .slice 87), (51, .pointer 59), (56, .struct [(0, 3), (1, 3)]), (57, .struct [(0, 3), (1, 3)]), (58, .struct [(0, 3), (1, 30), (2, 57), (4, 57), (6, 4)]), (59, .struct [(0, 3), (1, 30), (2, 57), (4, 57), (6, 4)]), (65, .func), (69, .struct [(0, 3), (1, 3), (2, 3), (3, 23)]), (70, .struct [(0, 3), (1, 3), (2, 3), (3, 23)]), (73, .struct [(0, 3), (1, 3)]), (74, .struct [(0, 3), (1, 3)]), (75, .struct [(0, 3), (1, 30), (2, 74), (4, 74), (6, 4)]), (76, .struct [(0, 3), (1, 30), (2, 74), (4, 74), (6, 4)]), (79, .func), (83, .slice 4), (86, .struct [(0, 3), (1, 3), (2, 3), (3, 23)]), (87, .struct [(0, 3), (1, 3), (2, 3), (3, 23)]), (93, .map 23 3), (97, .pointer 23), (100, .int .u64), (111, .int .u32), (115, .pointer 5)]
def tabS : List (Nat × Nat × Nat × List Value) := [(2, 1, 8, [Value.int .i64 0]), (3, 1, 8, [Value.int .i64 0]), (4, 1, 1, [Value.bool false]), (5, 1, 1, [Value.int .u8 0]), (9, 1, 16, [Value.string ⟨#[]⟩]), (12, 1, 8, [Value.int .u64 0]), (13, 2, 24, [Value.string ⟨#[]⟩, Value.int .u64 0]), (21, 1, 4, [Value.int .i32 0]), (22, 1, 24, [Value.slice none 0 0]), (23, 1, 8, [Value.int .u64 0]), (25, 1, 8, [Value.pointer none]), (26, 1, 8, [Value.int .i64 0]), (30, 1, 24, [Value.slice none 0 0]), (32, 1, 24, [Value.slice none 0 0]), (37, 1, 8, [Value.nilFunc]), (38, 5, 56, [Value.slice none 0 0, Value.int .i64 0, Value.int .i64 0, Value.int .i64 0, Value.nilFunc]), (39, 5, 56, [Value.slice none 0 0, Value.int .i64 0, Value.int .i64 0, Value.int .i64 0, Value.nilFunc]), (44, 4, 64, [Value.int .i64 0, Value.int .i64 0, Value.slice none 0 0, Value.slice none 0 0]), (45, 4, 64, [Value.int .i64 0, Value.int .i64 0, Value.slice none 0 0, Value.slice none 0 0]), (50, 1, 24, [Value.slice none 0 0]), (51, 1, 8, [Value.pointer none]), (56, 2, 16, [Value.int .i64 0, Value.int .i64 0]), (57, 2, 16, [Value.int .i64 0, Value.int .i64 0]), (58, 7, 72, [Value.int .i64 0, Value.slice none 0 0, Value.int .i64 0, Value.int .i64 0, Value.int .i64 0, Value.int .i64 0, Value.bool false]), (59, 7, 72, [Value.int .i64 0, Value.slice none 0 0, Value.int .i64 0, Value.int .i64 0, Value.int .i64 0, Value.int .i64 0, Value.bool false]), (65, 1, 8, [Value.nilFunc]), (69, 4, 32, [Value.int .i64 0, Value.int .i64 0, Value.int .i64 0, Value.int .u64 0]), (70, 4, 32, [Value.int .i64 0, Value.int .i64 0, Value.int .i64 0, Value.int .u64 0]), (73, 2, 16, [Value.int .i64 0, Value.int .i64 0]), (74, 2, 16, [Value.int .i64 0, Value.int .i64 0]), (75, 7, 72, [Value.int .i64 0, Value.slice none 0 0, Value.int .i64 0, Value.int .i64 0, Value.int .i64 0, Value.int .i64 0, Value.bool false]), (76, 7, 72, [Value.int .i64 0, Value.slice none 0 0, Value.int .i64 0, Value.int .i64 0, Value.int .i64 0, Value.int .i64 0, Value.bool false]), (79, 1, 8, [Value.nilFunc]), (83, 1, 24, [Value.slice none 0 0]), (86, 4, 32, [Value.int .i64 0, Value.int .i64 0, Value.int .i64 0, Value.int .u64 0]), (87, 4, 32, [Value.int .i64 0, Value.int .i64 0, Value.int .i64 0, Value.int .u64 0]), (93, 1, 8, [Value.map none]), (97, 1, 8, [Value.pointer none]), (100, 1, 8, [Value.int .u64 0]), (111, 1, 4, [Value.int .u32 0]), (115, 1, 8, [Value.pointer none])]
def tabH : List (Nat × Sh) := [(2, .int .i64), (3, .int .i64), (4, .bool), (5, .int .u8), (9, .str), (12, .int .u64), (13, .agg [.str, .int .u64]), (21, .int .i32), (22, .slice), (23, .int .u64), (25, .ptr), (26, .int .i64), (27, .tup [.ptr, .int .i64]), (30, .slice), (32, .slice), (34, .tup [.int .i64, .int .i64]), (38, .agg [.slice, .int .i64, .int .i64, .int .i64, .fnv 32 3]), (39, .agg [.slice, .int .i64, .int .i64, .int .i64, .fnv 32 3]), (44, .agg [.int .i64, .int .i64, .slice, .slice]), (45, .agg [.int .i64, .int .i64, .slice, .slice]), (47, .tup [.int .u64, .bool]), (50, .slice), (51, .ptr), (54, .tup [.slice, .int .i64, .int .i64]), (56, .agg [.int .i64, .int .i64]), (57, .agg [.int .i64, .int .i64]), (58, .agg [.int .i64, .slice, .int .i64, .int .i64, .int .i64, .int .i64, .bool]), (59, .agg [.int .i64, .slice, .int .i64, .int .i64, .int .i64, .int .i64, .bool]), (67, .tup [.int .u64, .int .i64]), (69, .agg [.int .i64, .int .i64, .int .i64, .int .u64]), (70, .agg [.int .i64, .int .i64, .int .i64, .int .u64]), (73, .agg [.int .i64, .int .i64]), (74, .agg [.int .i64, .int .i64]), (75, .agg [.int .i64, .slice, .int .i64, .int .i64, .int .i64, .int .i64, .bool]), (76, .agg [.int .i64, .slice, .int .i64, .int .i64, .int .i64, .int .i64, .bool]), (83, .slice), (84, .tup [.ptr, .int .i64]), (86, .agg [.int .i64, .int .i64, .int .i64, .int .u64]), (87, .agg [.int .i64, .int .i64, .int .i64, .int .u64]), (90, .tup [.agg [.int .i64, .int .i64, .int .i64, .int .u64], .bool]), (93, .map), (97, .ptr), (98, .tup [.ptr, .bool]), (100, .int .u64), (103, .tup [.agg [.int .i64, .int .i64], .int .u64]), (111, .int .u32), (115, .ptr), (37, .fnv 32 3), (65, .clo 49 1), (79, .fnv 36 1)]
def tabE : List Nat := [57, 70, 74, 87]
def tabF : List Nat := [3, 4, 5, 6, 7, 8, 9, 10, 11, 12, 13, 14, 15, 16, 17, 18, 19, 20, 21, 22, 23, 24, 25, 26, 27, 28, 29, 30, 31, 32, 33, 34, 35, 36, 37, 38, 39, 40, 41, 42, 43, 44, 45, 46, 47, 48, 49, 50, 51, 52, 53, 54, 55, 56, 57, 58, 59, 60, 61]
def tab : Tab := { und := tabU, siz := tabS, sh := tabH, fns := tabF, eqs := tabE }
theorem tabU_all : ∀ x ∈ tabU, (Try.prog.underlying x.1).map strip = some x.2 := by
  unfold tabU
  refine List.forall_mem_cons.2 ⟨by kernel_rfl, ?_⟩
  refine List.forall_mem_cons.2 ⟨by kernel_rfl, ?_⟩
  refine List.forall_mem_cons.2 ⟨by kernel_rfl, ?_⟩
  refine List.forall_mem_cons.2 ⟨by kernel_rfl, ?_⟩
  refine List.forall_mem_cons.2 ⟨by kernel_rfl, ?_⟩
  refine List.forall_mem_cons.2 ⟨by kernel_rfl, ?_⟩
  refine List.forall_mem_cons.2 ⟨by kernel_rfl, ?_⟩
  refine List.forall_mem_cons.2 ⟨by kernel_rfl, ?_⟩
  refine List.forall_mem_cons.2 ⟨by kernel_rfl, ?_⟩
  refine List.forall_mem_cons.2 ⟨by kernel_rfl, ?_⟩
  refine List.forall_mem_cons.2 ⟨by kernel_rfl, ?_⟩
  refine List.forall_mem_cons.2 ⟨by kernel_rfl, ?_⟩
  refine List.forall_mem_cons.2 ⟨by kernel_rfl, ?_⟩
  refine List.forall_mem_cons.2 ⟨by kernel_rfl, ?_⟩
  refine List.forall_mem_cons.2 ⟨by kernel_rfl, ?_⟩
  refine List.forall_mem_cons.2 ⟨by kernel_rfl, ?_⟩
  refine List.forall_mem_cons.2 ⟨by kernel_rfl, ?_⟩
  refine List.forall_mem_cons.2 ⟨by kernel_rfl, ?_⟩
  refine List.forall_mem_cons.2 ⟨by kernel_rfl, ?_⟩
  refine List.forall_mem_cons.2 ⟨by kernel_rfl, ?_⟩
  refine List.forall_mem_cons.2 ⟨by kernel_rfl, ?_⟩
  refine List.forall_mem_cons.2 ⟨by kernel_rfl, ?_⟩
  refine List.forall_mem_cons.2 ⟨by kernel_rfl, ?_⟩
  refine List.forall_mem_cons.2 ⟨by kernel_rfl, ?_⟩
  refine List.forall_mem_cons.2 ⟨by kernel_rfl, ?_⟩
  refine List.forall_mem_cons.2 ⟨by kernel_rfl, ?_⟩
  refine List.forall_mem_cons.2 ⟨by kernel_rfl, ?_⟩
  refine List.forall_mem_cons.2 ⟨by kernel_rfl, ?_⟩
  refine List.forall_mem_cons.2 ⟨by kernel_rfl, ?_⟩
  refine List.forall_mem_cons.2 ⟨by kernel_rfl, ?_⟩
  refine List.forall_mem_cons.2 ⟨by kernel_rfl, ?_⟩
  refine List.forall_mem_cons.2 ⟨by kernel_rfl, ?_⟩
  refine List.forall_mem_cons.2 ⟨by kernel_rfl, ?_⟩
  refine List.forall_mem_cons.2 ⟨by kernel_rfl, ?_⟩
  refine List.forall_mem_cons.2 ⟨by kernel_rfl, ?_⟩
  refine List.forall_mem_cons.2 ⟨by kernel_rfl, ?_⟩
  refine List.forall_mem_cons.2 ⟨by kernel_rfl, ?_⟩
  refine List.forall_mem_cons.2 ⟨by kernel_rfl, ?_⟩
  refine List.forall_mem_cons.2 ⟨by kernel_rfl, ?_⟩
  refine List.forall_mem_cons.2 ⟨by kernel_rfl, ?_⟩
  refine List.forall_mem_cons.2 ⟨by kernel_rfl, ?_⟩
  exact fun _ h => nomatch h
theorem tabS_all : ∀ x ∈ tabS, (Try.prog.info? x.1).map (fun i => (i.size, i.bytes, x.2.2.2.length, i.zero.map fun z => z.cells)) = some (x.2.1, x.2.2.1, x.2.1, some x.2.2.2.toArray) := by
  unfold tabS
  refine List.forall_mem_cons.2 ⟨by kernel_rfl, ?_⟩
  refine List.forall_mem_cons.2 ⟨by kernel_rfl, ?_⟩
  refine List.forall_mem_cons.2 ⟨by kernel_rfl, ?_⟩
  refine List.forall_mem_cons.2 ⟨by kernel_rfl, ?_⟩
  refine List.forall_mem_cons.2 ⟨by kernel_rfl, ?_⟩
  refine List.forall_mem_cons.2 ⟨by kernel_rfl, ?_⟩
  refine List.forall_mem_cons.2 ⟨by kernel_rfl, ?_⟩
  refine List.forall_mem_cons.2 ⟨by kernel_rfl, ?_⟩
  refine List.forall_mem_cons.2 ⟨by kernel_rfl, ?_⟩
  refine List.forall_mem_cons.2 ⟨by kernel_rfl, ?_⟩
  refine List.forall_mem_cons.2 ⟨by kernel_rfl, ?_⟩
  refine List.forall_mem_cons.2 ⟨by kernel_rfl, ?_⟩
  refine List.forall_mem_cons.2 ⟨by kernel_rfl, ?_⟩
  refine List.forall_mem_cons.2 ⟨by kernel_rfl, ?_⟩
  refine List.forall_mem_cons.2 ⟨by kernel_rfl, ?_⟩
  refine List.forall_mem_cons.2 ⟨by kernel_rfl, ?_⟩
  refine List.forall_mem_cons.2 ⟨by kernel_rfl, ?_⟩
  refine List.forall_mem_cons.2 ⟨by kernel_rfl, ?_⟩
  refine List.forall_mem_cons.2 ⟨by kernel_rfl, ?_⟩
  refine List.forall_mem_cons.2 ⟨by kernel_rfl, ?_⟩
  refine List.forall_mem_cons.2 ⟨by kernel_rfl, ?_⟩
  refine List.forall_mem_cons.2 ⟨by kernel_rfl, ?_⟩
  refine List.forall_mem_cons.2 ⟨by kernel_rfl, ?_⟩
  refine List.forall_mem_cons.2 ⟨by kernel_rfl, ?_⟩
  refine List.forall_mem_cons.2 ⟨by kernel_rfl, ?_⟩
  refine List.forall_mem_cons.2 ⟨by kernel_rfl, ?_⟩
  refine List.forall_mem_cons.2 ⟨by kernel_rfl, ?_⟩
  refine List.forall_mem_cons.2 ⟨by kernel_rfl, ?_⟩
  refine List.forall_mem_cons.2 ⟨by kernel_rfl, ?_⟩
  refine List.forall_mem_cons.2 ⟨by kernel_rfl, ?_⟩
  refine List.forall_mem_cons.2 ⟨by kernel_rfl, ?_⟩
  refine List.forall_mem_cons.2 ⟨by kernel_rfl, ?_⟩
  refine List.forall_mem_cons.2 ⟨by kernel_rfl, ?_⟩
  refine List.forall_mem_cons.2 ⟨by kernel_rfl, ?_⟩
  refine List.forall_mem_cons.2 ⟨by kernel_rfl, ?_⟩
  refine List.forall_mem_cons.2 ⟨by kernel_rfl, ?_⟩
  refine List.forall_mem_cons.2 ⟨by kernel_rfl, ?_⟩
  refine List.forall_mem_cons.2 ⟨by kernel_rfl, ?_⟩
  refine List.forall_mem_cons.2 ⟨by kernel_rfl, ?_⟩
  refine List.forall_mem_cons.2 ⟨by kernel_rfl, ?_⟩
  refine List.forall_mem_cons.2 ⟨by kernel_rfl, ?_⟩
  exact fun _ h => nomatch h
theorem tabF_all : ∀ x ∈ tabF, (Try.prog.funcs[x]?).map (fun fn => (fn.name == "runtime.NumGoroutine", fn.body.isNone)) = some (false, false) := by
  unfold tabF
  refine List.forall_mem_cons.2 ⟨by kernel_rfl, ?_⟩
  refine List.forall_mem_cons.2 ⟨by kernel_rfl, ?_⟩
  refine List.forall_mem_cons.2 ⟨by kernel_rfl, ?_⟩
  refine List.forall_mem_cons.2 ⟨by kernel_rfl, ?_⟩
  refine List.forall_mem_cons.2 ⟨by kernel_rfl, ?_⟩
  refine List.forall_mem_cons.2 ⟨by kernel_rfl, ?_⟩
  refine List.forall_mem_cons.2 ⟨by kernel_rfl, ?_⟩
  refine List.forall_mem_cons.2 ⟨by kernel_rfl, ?_⟩
  refine List.forall_mem_cons.2 ⟨by kernel_rfl, ?_⟩
  refine List.forall_mem_cons.2 ⟨by kernel_rfl, ?_⟩
  refine List.forall_mem_cons.2 ⟨by kernel_rfl, ?_⟩
  refine List.forall_mem_cons.2 ⟨by kernel_rfl, ?_⟩
  refine List.forall_mem_cons.2 ⟨by kernel_rfl, ?_⟩
  refine List.forall_mem_cons.2 ⟨by kernel_rfl, ?_⟩
  refine List.forall_mem_cons.2 ⟨by kernel_rfl, ?_⟩
  refine List.forall_mem_cons.2 ⟨by kernel_rfl, ?_⟩
  refine List.forall_mem_cons.2 ⟨by kernel_rfl, ?_⟩
  refine List.forall_mem_cons.2 ⟨by kernel_rfl, ?_⟩
  refine List.forall_mem_cons.2 ⟨by kernel_rfl, ?_⟩
  refine List.forall_mem_cons.2 ⟨by kernel_rfl, ?_⟩
  refine List.forall_mem_cons.2 ⟨by kernel_rfl, ?_⟩
  refine List.forall_mem_cons.2 ⟨by kernel_rfl, ?_⟩
  refine List.forall_mem_cons.2 ⟨by kernel_rfl, ?_⟩
  refine List.forall_mem_cons.2 ⟨by kernel_rfl, ?_⟩
  refine List.forall_mem_cons.2 ⟨by kernel_rfl, ?_⟩
  refine List.forall_mem_cons.2 ⟨by kernel_rfl, ?_⟩
  refine List.forall_mem_cons.2 ⟨by kernel_rfl, ?_⟩
  refine List.forall_mem_cons.2 ⟨by kernel_rfl, ?_⟩
  refine List.forall_mem_cons.2 ⟨by kernel_rfl, ?_⟩
  refine List.forall_mem_cons.2 ⟨by kernel_rfl, ?_⟩
  refine List.forall_mem_cons.2 ⟨by kernel_rfl, ?_⟩
  refine List.forall_mem_cons.2 ⟨by kernel_rfl, ?_⟩
  refine List.forall_mem_cons.2 ⟨by kernel_rfl, ?_⟩
  refine List.forall_mem_cons.2 ⟨by kernel_rfl, ?_⟩
  refine List.forall_mem_cons.2 ⟨by kernel_rfl, ?_⟩
  refine List.forall_mem_cons.2 ⟨by kernel_rfl, ?_⟩
  refine List.forall_mem_cons.2 ⟨by kernel_rfl, ?_⟩
  refine List.forall_mem_cons.2 ⟨by kernel_rfl, ?_⟩
  refine List.forall_mem_cons.2 ⟨by kernel_rfl, ?_⟩
  refine List.forall_mem_cons.2 ⟨by kernel_rfl, ?_⟩
  refine List.forall_mem_cons.2 ⟨by kernel_rfl, ?_⟩
  refine List.forall_mem_cons.2 ⟨by kernel_rfl, ?_⟩
  refine List.forall_mem_cons.2 ⟨by kernel_rfl, ?_⟩
  refine List.forall_mem_cons.2 ⟨by kernel_rfl, ?_⟩
  refine List.forall_mem_cons.2 ⟨by kernel_rfl, ?_⟩
  refine List.forall_mem_cons.2 ⟨by kernel_rfl, ?_⟩
  refine List.forall_mem_cons.2 ⟨by kernel_rfl, ?_⟩
  refine List.forall_mem_cons.2 ⟨by kernel_rfl, ?_⟩
  refine List.forall_mem_cons.2 ⟨by kernel_rfl, ?_⟩
  refine List.forall_mem_cons.2 ⟨by kernel_rfl, ?_⟩
  refine List.forall_mem_cons.2 ⟨by kernel_rfl, ?_⟩
  refine List.forall_mem_cons.2 ⟨by kernel_rfl, ?_⟩
  refine List.forall_mem_cons.2 ⟨by kernel_rfl, ?_⟩
  refine List.forall_mem_cons.2 ⟨by kernel_rfl, ?_⟩
  refine List.forall_mem_cons.2 ⟨by kernel_rfl, ?_⟩
  refine List.forall_mem_cons.2 ⟨by kernel_rfl, ?_⟩
  refine List.forall_mem_cons.2 ⟨by kernel_rfl, ?_⟩
  refine List.forall_mem_cons.2 ⟨by kernel_rfl, ?_⟩
  refine List.forall_mem_cons.2 ⟨by kernel_rfl, ?_⟩
  exact fun _ h => nomatch h
theorem tabE_all : ∀ x ∈ tabE, (Try.prog.eqGuardType Try.prog.depth x, Try.prog.stoodInHeld x, (Try.prog.fieldsOf x).toList.all fun f => f.name != "_") = (false, false, true) := by
  unfold tabE
  refine List.forall_mem_cons.2 ⟨by kernel_rfl, ?_⟩
  refine List.forall_mem_cons.2 ⟨by kernel_rfl, ?_⟩
  refine List.forall_mem_cons.2 ⟨by kernel_rfl, ?_⟩
  refine List.forall_mem_cons.2 ⟨by kernel_rfl, ?_⟩
  exact fun _ h => nomatch h
theorem tab_ok : tab.Ok Try.prog := ⟨tabOk_und _ tabU_all, tabOk_siz _ tabS_all, tabOk_fns _ tabF_all, by kernel_rfl, tabOk_eqs _ tabE_all⟩
end Go.Proofs.Ytgbpglfieellpaa.V
