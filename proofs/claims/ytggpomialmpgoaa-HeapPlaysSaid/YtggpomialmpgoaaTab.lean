/-
  The types of the program and its functions that have a body. By program (tab.py).
-/
import Derived.Test.YtggpomialmpgoaaDenR
import Derived.Test.YtggpomialmpgoaaRows
namespace Go.Proofs.Ytggpomialmpgoaa.V
open Go Go.RowKit
set_option linter.unusedVariables false
set_option linter.unusedSimpArgs false

def tabU : List (Nat × TD) := [(2, .int .i64), (3, .int .i64), (4, .bool), (5, .int .u8), (9, .string), (12, .int .u64), (13, .struct [(0, 9), (1, 12)]), (21, .int .i32), (22, .slice 3), (25, .pointer 34), (26, .int .i64), (29, .pointer 91), (30, .map 3 80), (31, .struct [(0, 3), (1, 3), (2, 3)]), (32, .struct [(0, 3), (1, 3), (2, 3)]), (33, .struct [(0, 29), (1, 30), (2, 4), (3, 4), (4, 32)]), (34, .struct [(0, 29), (1, 30), (2, 4), (3, 4), (4, 32)]), (35, .int .u64), (36, .struct [(0, 3), (1, 3), (2, 3), (3, 35)]), (37, .struct [(0, 3), (1, 3), (2, 3), (3, 35)]), (38, .slice 35), (47, .pointer 74), (55, .slice 57), (56, .struct [(0, 35), (1, 22), (2, 3)]), (57, .struct [(0, 35), (1, 22), (2, 3)]), (58, .int .u64), (61, .slice 67), (62, .pointer 64), (63, .struct [(0, 25), (1, 47), (2, 38)]), (64, .struct [(0, 25), (1, 47), (2, 38)]), (66, .struct [(0, 3), (1, 37), (5, 38), (6, 22), (7, 3), (8, 3), (9, 35), (10, 4)]), (67, .struct [(0, 3), (1, 37), (5, 38), (6, 22), (7, 3), (8, 3), (9, 35), (10, 4)]), (68, .struct [(0, 3), (1, 3)]), (69, .struct [(0, 3), (1, 3)]), (70, .struct [(0, 3), (1, 38), (2, 69), (4, 69), (6, 4)]), (71, .struct [(0, 3), (1, 38), (2, 69), (4, 69), (6, 4)]), (72, .pointer 71), (73, .struct [(0, 72), (1, 22), (2, 4), (3, 4), (4, 32)]), (74, .struct [(0, 72), (1, 22), (2, 4), (3, 4), (4, 32)]), (80, .struct []), (86, .func), (87, .func), (88, .struct [(0, 3), (1, 3)]), (89, .struct [(0, 3), (1, 3)]), (90, .struct [(0, 3), (1, 38), (2, 89), (4, 89), (6, 4)]), (91, .struct [(0, 3), (1, 38), (2, 89), (4, 89), (6, 4)]), (94, .pointer 35), (97, .map 35 3), (99, .func), (115, .slice 120), (118, .slice 4), (119, .struct [(0, 35), (1, 37)]), (120, .struct [(0, 35), (1, 37)]), (132, .int .u32), (136, .pointer 5)]
def tabS : List (Nat × Nat × Nat × List Value) := [(2, 1, 8, [Value.int .i64 0]), (3, 1, 8, [Value.int .i64 0]), (4, 1, 1, [Value.bool false]), (5, 1, 1, [Value.int .u8 0]), (9, 1, 16, [Value.string ⟨#[]⟩]), (12, 1, 8, [Value.int .u64 0]), (13, 2, 24, [Value.string ⟨#[]⟩, Value.int .u64 0]), (21, 1, 4, [Value.int .i32 0]), (22, 1, 24, [Value.slice none 0 0]), (25, 1, 8, [Value.pointer none]), (26, 1, 8, [Value.int .i64 0]), (29, 1, 8, [Value.pointer none]), (30, 1, 8, [Value.map none]), (31, 3, 24, [Value.int .i64 0, Value.int .i64 0, Value.int .i64 0]), (32, 3, 24, [Value.int .i64 0, Value.int .i64 0, Value.int .i64 0]), (33, 7, 48, [Value.pointer none, Value.map none, Value.bool false, Value.bool false, Value.int .i64 0, Value.int .i64 0, Value.int .i64 0]), (34, 7, 48, [Value.pointer none, Value.map none, Value.bool false, Value.bool false, Value.int .i64 0, Value.int .i64 0, Value.int .i64 0]), (35, 1, 8, [Value.int .u64 0]), (36, 4, 32, [Value.int .i64 0, Value.int .i64 0, Value.int .i64 0, Value.int .u64 0]), (37, 4, 32, [Value.int .i64 0, Value.int .i64 0, Value.int .i64 0, Value.int .u64 0]), (38, 1, 24, [Value.slice none 0 0]), (47, 1, 8, [Value.pointer none]), (55, 1, 24, [Value.slice none 0 0]), (56, 3, 40, [Value.int .u64 0, Value.slice none 0 0, Value.int .i64 0]), (57, 3, 40, [Value.int .u64 0, Value.slice none 0 0, Value.int .i64 0]), (58, 1, 8, [Value.int .u64 0]), (61, 1, 24, [Value.slice none 0 0]), (62, 1, 8, [Value.pointer none]), (63, 3, 40, [Value.pointer none, Value.pointer none, Value.slice none 0 0]), (64, 3, 40, [Value.pointer none, Value.pointer none, Value.slice none 0 0]), (66, 11, 120, [Value.int .i64 0, Value.int .i64 0, Value.int .i64 0, Value.int .i64 0, Value.int .u64 0, Value.slice none 0 0, Value.slice none 0 0, Value.int .i64 0, Value.int .i64 0, Value.int .u64 0, Value.bool false]), (67, 11, 120, [Value.int .i64 0, Value.int .i64 0, Value.int .i64 0, Value.int .i64 0, Value.int .u64 0, Value.slice none 0 0, Value.slice none 0 0, Value.int .i64 0, Value.int .i64 0, Value.int .u64 0, Value.bool false]), (68, 2, 16, [Value.int .i64 0, Value.int .i64 0]), (69, 2, 16, [Value.int .i64 0, Value.int .i64 0]), (70, 7, 72, [Value.int .i64 0, Value.slice none 0 0, Value.int .i64 0, Value.int .i64 0, Value.int .i64 0, Value.int .i64 0, Value.bool false]), (71, 7, 72, [Value.int .i64 0, Value.slice none 0 0, Value.int .i64 0, Value.int .i64 0, Value.int .i64 0, Value.int .i64 0, Value.bool false]), (72, 1, 8, [Value.pointer none]), (73, 7, 64, [Value.pointer none, Value.slice none 0 0, Value.bool false, Value.bool false, Value.int .i64 0, Value.int .i64 0, Value.int .i64 0]), (74, 7, 64, [Value.pointer none, Value.slice none 0 0, Value.bool false, Value.bool false, Value.int .i64 0, Value.int .i64 0, Value.int .i64 0]), (80, 0, 0, []), (86, 1, 8, [Value.nilFunc]), (87, 1, 8, [Value.nilFunc]), (88, 2, 16, [Value.int .i64 0, Value.int .i64 0]), (89, 2, 16, [Value.int .i64 0, Value.int .i64 0]), (90, 7, 72, [Value.int .i64 0, Value.slice none 0 0, Value.int .i64 0, Value.int .i64 0, Value.int .i64 0, Value.int .i64 0, Value.bool false]), (91, 7, 72, [Value.int .i64 0, Value.slice none 0 0, Value.int .i64 0, Value.int .i64 0, Value.int .i64 0, Value.int .i64 0, Value.bool false]), (94, 1, 8, [Value.pointer none]), (97, 1, 8, [Value.map none]), (99, 1, 8, [Value.nilFunc]), (115, 1, 24, [Value.slice none 0 0]), (118, 1, 24, [Value.slice none 0 0]), (119, 5, 40, [Value.int .u64 0, Value.int .i64 0, Value.int .i64 0, Value.int .i64 0, Value.int .u64 0]), (120, 5, 40, [Value.int .u64 0, Value.int .i64 0, Value.int .i64 0, Value.int .i64 0, Value.int .u64 0]), (132, 1, 4, [Value.int .u32 0]), (136, 1, 8, [Value.pointer none])]
def tabH : List (Nat × Sh) := [(2, .int .i64), (3, .int .i64), (4, .bool), (5, .int .u8), (9, .str), (12, .int .u64), (13, .agg [.str, .int .u64]), (21, .int .i32), (22, .slice), (25, .ptr), (26, .int .i64), (27, .tup [.ptr, .int .i64]), (29, .ptr), (30, .map), (31, .agg [.int .i64, .int .i64, .int .i64]), (32, .agg [.int .i64, .int .i64, .int .i64]), (33, .agg [.ptr, .map, .bool, .bool, .int .i64, .int .i64, .int .i64]), (34, .agg [.ptr, .map, .bool, .bool, .int .i64, .int .i64, .int .i64]), (35, .int .u64), (36, .agg [.int .i64, .int .i64, .int .i64, .int .u64]), (37, .agg [.int .i64, .int .i64, .int .i64, .int .u64]), (38, .slice), (40, .tup [.slice, .int .i64]), (43, .tup [.int .u64, .int .i64]), (47, .ptr), (48, .tup [.ptr, .int .i64]), (52, .tup [.int .i64, .int .i64]), (55, .slice), (56, .agg [.int .u64, .slice, .int .i64]), (57, .agg [.int .u64, .slice, .int .i64]), (58, .int .u64), (61, .slice), (62, .ptr), (63, .agg [.ptr, .ptr, .slice]), (64, .agg [.ptr, .ptr, .slice]), (66, .agg [.int .i64, .int .i64, .int .i64, .int .i64, .int .u64, .slice, .slice, .int .i64, .int .i64, .int .u64, .bool]), (67, .agg [.int .i64, .int .i64, .int .i64, .int .i64, .int .u64, .slice, .slice, .int .i64, .int .i64, .int .u64, .bool]), (68, .agg [.int .i64, .int .i64]), (69, .agg [.int .i64, .int .i64]), (70, .agg [.int .i64, .slice, .int .i64, .int .i64, .int .i64, .int .i64, .bool]), (71, .agg [.int .i64, .slice, .int .i64, .int .i64, .int .i64, .int .i64, .bool]), (72, .ptr), (73, .agg [.ptr, .slice, .bool, .bool, .int .i64, .int .i64, .int .i64]), (74, .agg [.ptr, .slice, .bool, .bool, .int .i64, .int .i64, .int .i64]), (75, .tup [.int .u64, .bool]), (78, .tup [.ptr, .int .i64]), (80, .agg []), (82, .tup [.agg [], .bool]), (83, .tup [.agg [.int .i64, .int .i64, .int .i64, .int .u64], .bool]), (88, .agg [.int .i64, .int .i64]), (89, .agg [.int .i64, .int .i64]), (90, .agg [.int .i64, .slice, .int .i64, .int .i64, .int .i64, .int .i64, .bool]), (91, .agg [.int .i64, .slice, .int .i64, .int .i64, .int .i64, .int .i64, .bool]), (92, .tup [.ptr, .int .i64]), (94, .ptr), (95, .tup [.ptr, .bool]), (97, .map), (115, .slice), (116, .tup [.slice, .int .i64]), (118, .slice), (119, .agg [.int .u64, .int .i64, .int .i64, .int .i64, .int .u64]), (120, .agg [.int .u64, .int .i64, .int .i64, .int .i64, .int .u64]), (121, .tup [.slice, .int .i64, .int .i64]), (123, .tup [.agg [.int .i64, .int .i64], .int .u64]), (132, .int .u32), (136, .ptr), (86, .clo 52 3), (87, .clo 29 2), (99, .clo 57 1)]
def tabE : List Nat := [32, 37, 69, 89]
def tabF : List Nat := [3, 4, 5, 6, 7, 8, 9, 10, 11, 12, 13, 14, 15, 16, 17, 18, 19, 20, 21, 22, 23, 24, 25, 26, 27, 28, 29, 30, 31, 32, 33, 34, 35, 36, 37, 38, 39, 40, 41, 42, 43, 44, 45, 46, 47, 48, 49, 50, 51, 52, 53, 54, 55, 56, 57, 58, 59, 60, 61, 62, 63, 64, 65, 66, 67, 68, 69, 70, 71]
def tab : Tab := { und := tabU, siz := tabS, sh := tabH, fns := tabF, eqs := tabE }
theorem tabU_all : ∀ x ∈ tabU, (Try.prog.underlying x.1).map strip = some x.2 := by
  unfold tabU
  refine List.forall_mem_cons.2 ⟨by kernel_rfl, ?_⟩
  refine List.forall_mem_cons.2 ⟨by kernel_rfl, ?_⟩
  refine List.forall_mem_cons.2 ⟨by kernel_rfl, ?_⟩
  refine List.forall_mem_cons.2 ⟨by kernel_rfl, ?_⟩
  refine List.forall_mem_cons.2 ⟨by kernel_rfl, ?_⟩
  refine List.forall_mem_cons.2 ⟨by kernel_rfl, ?_⟩
  refine List.forall_mem_cons.2 ⟨by kernel_rfl, ?_⟩
  refine List.forall_mem_cons.2 ⟨by kernel_rfl, ?_⟩
  refine List.forall_mem_cons.2 ⟨by kernel_rfl, ?_⟩
  refine List.forall_mem_cons.2 ⟨by kernel_rfl, ?_⟩
  refine List.forall_mem_cons.2 ⟨by kernel_rfl, ?_⟩
  refine List.forall_mem_cons.2 ⟨by kernel_rfl, ?_⟩
  refine List.forall_mem_cons.2 ⟨by kernel_rfl, ?_⟩
  refine List.forall_mem_cons.2 ⟨by kernel_rfl, ?_⟩
  refine List.forall_mem_cons.2 ⟨by kernel_rfl, ?_⟩
  refine List.forall_mem_cons.2 ⟨by kernel_rfl, ?_⟩
  refine List.forall_mem_cons.2 ⟨by kernel_rfl, ?_⟩
  refine List.forall_mem_cons.2 ⟨by kernel_rfl, ?_⟩
  refine List.forall_mem_cons.2 ⟨by kernel_rfl, ?_⟩
  refine List.forall_mem_cons.2 ⟨by kernel_rfl, ?_⟩
  refine List.forall_mem_cons.2 ⟨by kernel_rfl, ?_⟩
  refine List.forall_mem_cons.2 ⟨by kernel_rfl, ?_⟩
  refine List.forall_mem_cons.2 ⟨by kernel_rfl, ?_⟩
  refine List.forall_mem_cons.2 ⟨by kernel_rfl, ?_⟩
  refine List.forall_mem_cons.2 ⟨by kernel_rfl, ?_⟩
  refine List.forall_mem_cons.2 ⟨by kernel_rfl, ?_⟩
  refine List.forall_mem_cons.2 ⟨by kernel_rfl, ?_⟩
  refine List.forall_mem_cons.2 ⟨by kernel_rfl, ?_⟩
  refine List.forall_mem_cons.2 ⟨by kernel_rfl, ?_⟩
  refine List.forall_mem_cons.2 ⟨by kernel_rfl, ?_⟩
  refine List.forall_mem_cons.2 ⟨by kernel_rfl, ?_⟩
  refine List.forall_mem_cons.2 ⟨by kernel_rfl, ?_⟩
  refine List.forall_mem_cons.2 ⟨by kernel_rfl, ?_⟩
  refine List.forall_mem_cons.2 ⟨by kernel_rfl, ?_⟩
  refine List.forall_mem_cons.2 ⟨by kernel_rfl, ?_⟩
  refine List.forall_mem_cons.2 ⟨by kernel_rfl, ?_⟩
  refine List.forall_mem_cons.2 ⟨by kernel_rfl, ?_⟩
  refine List.forall_mem_cons.2 ⟨by kernel_rfl, ?_⟩
  refine List.forall_mem_cons.2 ⟨by kernel_rfl, ?_⟩
  refine List.forall_mem_cons.2 ⟨by kernel_rfl, ?_⟩
  refine List.forall_mem_cons.2 ⟨by kernel_rfl, ?_⟩
  refine List.forall_mem_cons.2 ⟨by kernel_rfl, ?_⟩
  refine List.forall_mem_cons.2 ⟨by kernel_rfl, ?_⟩
  refine List.forall_mem_cons.2 ⟨by kernel_rfl, ?_⟩
  refine List.forall_mem_cons.2 ⟨by kernel_rfl, ?_⟩
  refine List.forall_mem_cons.2 ⟨by kernel_rfl, ?_⟩
  refine List.forall_mem_cons.2 ⟨by kernel_rfl, ?_⟩
  refine List.forall_mem_cons.2 ⟨by kernel_rfl, ?_⟩
  refine List.forall_mem_cons.2 ⟨by kernel_rfl, ?_⟩
  refine List.forall_mem_cons.2 ⟨by kernel_rfl, ?_⟩
  refine List.forall_mem_cons.2 ⟨by kernel_rfl, ?_⟩
  refine List.forall_mem_cons.2 ⟨by kernel_rfl, ?_⟩
  refine List.forall_mem_cons.2 ⟨by kernel_rfl, ?_⟩
  refine List.forall_mem_cons.2 ⟨by kernel_rfl, ?_⟩
  refine List.forall_mem_cons.2 ⟨by kernel_rfl, ?_⟩
  exact fun _ h => nomatch h
theorem tabS_all : ∀ x ∈ tabS, (Try.prog.info? x.1).map (fun i => (i.size, i.bytes, x.2.2.2.length, i.zero.map fun z => z.cells)) = some (x.2.1, x.2.2.1, x.2.1, some x.2.2.2.toArray) := by
  unfold tabS
  refine List.forall_mem_cons.2 ⟨by kernel_rfl, ?_⟩
  refine List.forall_mem_cons.2 ⟨by kernel_rfl, ?_⟩
  refine List.forall_mem_cons.2 ⟨by kernel_rfl, ?_⟩
  refine List.forall_mem_cons.2 ⟨by kernel_rfl, ?_⟩
  refine List.forall_mem_cons.2 ⟨by kernel_rfl, ?_⟩
  refine List.forall_mem_cons.2 ⟨by kernel_rfl, ?_⟩
  refine List.forall_mem_cons.2 ⟨by kernel_rfl, ?_⟩
  refine List.forall_mem_cons.2 ⟨by kernel_rfl, ?_⟩
  refine List.forall_mem_cons.2 ⟨by kernel_rfl, ?_⟩
  refine List.forall_mem_cons.2 ⟨by kernel_rfl, ?_⟩
  refine List.forall_mem_cons.2 ⟨by kernel_rfl, ?_⟩
  refine List.forall_mem_cons.2 ⟨by kernel_rfl, ?_⟩
  refine List.forall_mem_cons.2 ⟨by kernel_rfl, ?_⟩
  refine List.forall_mem_cons.2 ⟨by kernel_rfl, ?_⟩
  refine List.forall_mem_cons.2 ⟨by kernel_rfl, ?_⟩
  refine List.forall_mem_cons.2 ⟨by kernel_rfl, ?_⟩
  refine List.forall_mem_cons.2 ⟨by kernel_rfl, ?_⟩
  refine List.forall_mem_cons.2 ⟨by kernel_rfl, ?_⟩
  refine List.forall_mem_cons.2 ⟨by kernel_rfl, ?_⟩
  refine List.forall_mem_cons.2 ⟨by kernel_rfl, ?_⟩
  refine List.forall_mem_cons.2 ⟨by kernel_rfl, ?_⟩
  refine List.forall_mem_cons.2 ⟨by kernel_rfl, ?_⟩
  refine List.forall_mem_cons.2 ⟨by kernel_rfl, ?_⟩
  refine List.forall_mem_cons.2 ⟨by kernel_rfl, ?_⟩
  refine List.forall_mem_cons.2 ⟨by kernel_rfl, ?_⟩
  refine List.forall_mem_cons.2 ⟨by kernel_rfl, ?_⟩
  refine List.forall_mem_cons.2 ⟨by kernel_rfl, ?_⟩
  refine List.forall_mem_cons.2 ⟨by kernel_rfl, ?_⟩
  refine List.forall_mem_cons.2 ⟨by kernel_rfl, ?_⟩
  refine List.forall_mem_cons.2 ⟨by kernel_rfl, ?_⟩
  refine List.forall_mem_cons.2 ⟨by kernel_rfl, ?_⟩
  refine List.forall_mem_cons.2 ⟨by kernel_rfl, ?_⟩
  refine List.forall_mem_cons.2 ⟨by kernel_rfl, ?_⟩
  refine List.forall_mem_cons.2 ⟨by kernel_rfl, ?_⟩
  refine List.forall_mem_cons.2 ⟨by kernel_rfl, ?_⟩
  refine List.forall_mem_cons.2 ⟨by kernel_rfl, ?_⟩
  refine List.forall_mem_cons.2 ⟨by kernel_rfl, ?_⟩
  refine List.forall_mem_cons.2 ⟨by kernel_rfl, ?_⟩
  refine List.forall_mem_cons.2 ⟨by kernel_rfl, ?_⟩
  refine List.forall_mem_cons.2 ⟨by kernel_rfl, ?_⟩
  refine List.forall_mem_cons.2 ⟨by kernel_rfl, ?_⟩
  refine List.forall_mem_cons.2 ⟨by kernel_rfl, ?_⟩
  refine List.forall_mem_cons.2 ⟨by kernel_rfl, ?_⟩
  refine List.forall_mem_cons.2 ⟨by kernel_rfl, ?_⟩
  refine List.forall_mem_cons.2 ⟨by kernel_rfl, ?_⟩
  refine List.forall_mem_cons.2 ⟨by kernel_rfl, ?_⟩
  refine List.forall_mem_cons.2 ⟨by kernel_rfl, ?_⟩
  refine List.forall_mem_cons.2 ⟨by kernel_rfl, ?_⟩
  refine List.forall_mem_cons.2 ⟨by kernel_rfl, ?_⟩
  refine List.forall_mem_cons.2 ⟨by kernel_rfl, ?_⟩
  refine List.forall_mem_cons.2 ⟨by kernel_rfl, ?_⟩
  refine List.forall_mem_cons.2 ⟨by kernel_rfl, ?_⟩
  refine List.forall_mem_cons.2 ⟨by kernel_rfl, ?_⟩
  refine List.forall_mem_cons.2 ⟨by kernel_rfl, ?_⟩
  refine List.forall_mem_cons.2 ⟨by kernel_rfl, ?_⟩
  exact fun _ h => nomatch h
theorem tabF_all : ∀ x ∈ tabF, (Try.prog.funcs[x]?).map (fun fn => (fn.name == "runtime.NumGoroutine", fn.body.isNone)) = some (false, false) := by
  unfold tabF
  refine List.forall_mem_cons.2 ⟨by kernel_rfl, ?_⟩
  refine List.forall_mem_cons.2 ⟨by kernel_rfl, ?_⟩
  refine List.forall_mem_cons.2 ⟨by kernel_rfl, ?_⟩
  refine List.forall_mem_cons.2 ⟨by kernel_rfl, ?_⟩
  refine List.forall_mem_cons.2 ⟨by kernel_rfl, ?_⟩
  refine List.forall_mem_cons.2 ⟨by kernel_rfl, ?_⟩
  refine List.forall_mem_cons.2 ⟨by kernel_rfl, ?_⟩
  refine List.forall_mem_cons.2 ⟨by kernel_rfl, ?_⟩
  refine List.forall_mem_cons.2 ⟨by kernel_rfl, ?_⟩
  refine List.forall_mem_cons.2 ⟨by kernel_rfl, ?_⟩
  refine List.forall_mem_cons.2 ⟨by kernel_rfl, ?_⟩
  refine List.forall_mem_cons.2 ⟨by kernel_rfl, ?_⟩
  refine List.forall_mem_cons.2 ⟨by kernel_rfl, ?_⟩
  refine List.forall_mem_cons.2 ⟨by kernel_rfl, ?_⟩
  refine List.forall_mem_cons.2 ⟨by kernel_rfl, ?_⟩
  refine List.forall_mem_cons.2 ⟨by kernel_rfl, ?_⟩
  refine List.forall_mem_cons.2 ⟨by kernel_rfl, ?_⟩
  refine List.forall_mem_cons.2 ⟨by kernel_rfl, ?_⟩
  refine List.forall_mem_cons.2 ⟨by kernel_rfl, ?_⟩
  refine List.forall_mem_cons.2 ⟨by kernel_rfl, ?_⟩
  refine List.forall_mem_cons.2 ⟨by kernel_rfl, ?_⟩
  refine List.forall_mem_cons.2 ⟨by kernel_rfl, ?_⟩
  refine List.forall_mem_cons.2 ⟨by kernel_rfl, ?_⟩
  refine List.forall_mem_cons.2 ⟨by kernel_rfl, ?_⟩
  refine List.forall_mem_cons.2 ⟨by kernel_rfl, ?_⟩
  refine List.forall_mem_cons.2 ⟨by kernel_rfl, ?_⟩
  refine List.forall_mem_cons.2 ⟨by kernel_rfl, ?_⟩
  refine List.forall_mem_cons.2 ⟨by kernel_rfl, ?_⟩
  refine List.forall_mem_cons.2 ⟨by kernel_rfl, ?_⟩
  refine List.forall_mem_cons.2 ⟨by kernel_rfl, ?_⟩
  refine List.forall_mem_cons.2 ⟨by kernel_rfl, ?_⟩
  refine List.forall_mem_cons.2 ⟨by kernel_rfl, ?_⟩
  refine List.forall_mem_cons.2 ⟨by kernel_rfl, ?_⟩
  refine List.forall_mem_cons.2 ⟨by kernel_rfl, ?_⟩
  refine List.forall_mem_cons.2 ⟨by kernel_rfl, ?_⟩
  refine List.forall_mem_cons.2 ⟨by kernel_rfl, ?_⟩
  refine List.forall_mem_cons.2 ⟨by kernel_rfl, ?_⟩
  refine List.forall_mem_cons.2 ⟨by kernel_rfl, ?_⟩
  refine List.forall_mem_cons.2 ⟨by kernel_rfl, ?_⟩
  refine List.forall_mem_cons.2 ⟨by kernel_rfl, ?_⟩
  refine List.forall_mem_cons.2 ⟨by kernel_rfl, ?_⟩
  refine List.forall_mem_cons.2 ⟨by kernel_rfl, ?_⟩
  refine List.forall_mem_cons.2 ⟨by kernel_rfl, ?_⟩
  refine List.forall_mem_cons.2 ⟨by kernel_rfl, ?_⟩
  refine List.forall_mem_cons.2 ⟨by kernel_rfl, ?_⟩
  refine List.forall_mem_cons.2 ⟨by kernel_rfl, ?_⟩
  refine List.forall_mem_cons.2 ⟨by kernel_rfl, ?_⟩
  refine List.forall_mem_cons.2 ⟨by kernel_rfl, ?_⟩
  refine List.forall_mem_cons.2 ⟨by kernel_rfl, ?_⟩
  refine List.forall_mem_cons.2 ⟨by kernel_rfl, ?_⟩
  refine List.forall_mem_cons.2 ⟨by kernel_rfl, ?_⟩
  refine List.forall_mem_cons.2 ⟨by kernel_rfl, ?_⟩
  refine List.forall_mem_cons.2 ⟨by kernel_rfl, ?_⟩
  refine List.forall_mem_cons.2 ⟨by kernel_rfl, ?_⟩
  refine List.forall_mem_cons.2 ⟨by kernel_rfl, ?_⟩
  refine List.forall_mem_cons.2 ⟨by kernel_rfl, ?_⟩
  refine List.forall_mem_cons.2 ⟨by kernel_rfl, ?_⟩
  refine List.forall_mem_cons.2 ⟨by kernel_rfl, ?_⟩
  refine List.forall_mem_cons.2 ⟨by kernel_rfl, ?_⟩
  refine List.forall_mem_cons.2 ⟨by kernel_rfl, ?_⟩
  refine List.forall_mem_cons.2 ⟨by kernel_rfl, ?_⟩
  refine List.forall_mem_cons.2 ⟨by kernel_rfl, ?_⟩
  refine List.forall_mem_cons.2 ⟨by kernel_rfl, ?_⟩
  refine List.forall_mem_cons.2 ⟨by kernel_rfl, ?_⟩
  refine List.forall_mem_cons.2 ⟨by kernel_rfl, ?_⟩
  refine List.forall_mem_cons.2 ⟨by kernel_rfl, ?_⟩
  refine List.forall_mem_cons.2 ⟨by kernel_rfl, ?_⟩
  refine List.forall_mem_cons.2 ⟨by kernel_rfl, ?_⟩
  refine List.forall_mem_cons.2 ⟨by kernel_rfl, ?_⟩
  exact fun _ h => nomatch h
theorem tabE_all : ∀ x ∈ tabE, (Try.prog.eqGuardType Try.prog.depth x, Try.prog.stoodInHeld x, (Try.prog.fieldsOf x).toList.all fun f => f.name != "_") = (false, false, true) := by
  unfold tabE
  refine List.forall_mem_cons.2 ⟨by kernel_rfl, ?_⟩
  refine List.forall_mem_cons.2 ⟨by kernel_rfl, ?_⟩
  refine List.forall_mem_cons.2 ⟨by kernel_rfl, ?_⟩
  refine List.forall_mem_cons.2 ⟨by kernel_rfl, ?_⟩
  exact fun _ h => nomatch h
theorem tab_ok : tab.Ok Try.prog := ⟨tabOk_und _ tabU_all, tabOk_siz _ tabS_all, tabOk_fns _ tabF_all, by kernel_rfl, tabOk_eqs _ tabE_all⟩
end Go.Proofs.Ytggpomialmpgoaa.V
