/-
  The types of the program and its functions that have a body. By program (tab.py).
-/
import Derived.Test.YtodbmiflnellcaaDenK
import Derived.Test.YtodbmiflnellcaaRows
namespace Go.Proofs.Ytodbmiflnellcaa.V
open Go Go.RowKit

def tabU : List (Nat × TD) := [(2, .int .i64), (3, .int .i64), (4, .bool), (5, .int .u8), (9, .string), (12, .int .u64), (13, .struct [(0, 9), (1, 12)]), (21, .int .i32), (22, .slice 36), (24, .pointer 65), (25, .int .i64), (29, .slice 31), (30, .slice 3), (31, .slice 49), (34, .int .u64), (35, .struct [(0, 3), (1, 3), (2, 3), (3, 3), (4, 34)]), (36, .struct [(0, 3), (1, 3), (2, 3), (3, 3), (4, 34)]), (47, .slice 34), (48, .struct [(0, 3), (1, 3), (2, 47), (3, 47)]), (49, .struct [(0, 3), (1, 3), (2, 47), (3, 47)]), (55, .pointer 61), (59, .slice 78), (60, .struct [(0, 3), (1, 59)]), (61, .struct [(0, 3), (1, 59)]), (64, .struct [(0, 47), (1, 3), (2, 30)]), (65, .struct [(0, 47), (1, 3), (2, 30)]), (66, .int .u64), (68, .int .u32), (71, .pointer 34), (75, .pointer 78), (77, .struct [(0, 3), (1, 3), (2, 47), (3, 3), (4, 47)]), (78, .struct [(0, 3), (1, 3), (2, 47), (3, 3), (4, 47)]), (90, .pointer 5)]
def tabS : List (Nat × Nat × Nat × List Value) := [(2, 1, 8, [Value.int .i64 0]), (3, 1, 8, [Value.int .i64 0]), (4, 1, 1, [Value.bool false]), (5, 1, 1, [Value.int .u8 0]), (9, 1, 16, [Value.string ⟨#[]⟩]), (12, 1, 8, [Value.int .u64 0]), (13, 2, 24, [Value.string ⟨#[]⟩, Value.int .u64 0]), (21, 1, 4, [Value.int .i32 0]), (22, 1, 24, [Value.slice none 0 0]), (24, 1, 8, [Value.pointer none]), (25, 1, 8, [Value.int .i64 0]), (29, 1, 24, [Value.slice none 0 0]), (30, 1, 24, [Value.slice none 0 0]), (31, 1, 24, [Value.slice none 0 0]), (34, 1, 8, [Value.int .u64 0]), (35, 5, 40, [Value.int .i64 0, Value.int .i64 0, Value.int .i64 0, Value.int .i64 0, Value.int .u64 0]), (36, 5, 40, [Value.int .i64 0, Value.int .i64 0, Value.int .i64 0, Value.int .i64 0, Value.int .u64 0]), (47, 1, 24, [Value.slice none 0 0]), (48, 4, 64, [Value.int .i64 0, Value.int .i64 0, Value.slice none 0 0, Value.slice none 0 0]), (49, 4, 64, [Value.int .i64 0, Value.int .i64 0, Value.slice none 0 0, Value.slice none 0 0]), (55, 1, 8, [Value.pointer none]), (59, 1, 24, [Value.slice none 0 0]), (60, 2, 32, [Value.int .i64 0, Value.slice none 0 0]), (61, 2, 32, [Value.int .i64 0, Value.slice none 0 0]), (64, 3, 56, [Value.slice none 0 0, Value.int .i64 0, Value.slice none 0 0]), (65, 3, 56, [Value.slice none 0 0, Value.int .i64 0, Value.slice none 0 0]), (66, 1, 8, [Value.int .u64 0]), (68, 1, 4, [Value.int .u32 0]), (71, 1, 8, [Value.pointer none]), (75, 1, 8, [Value.pointer none]), (77, 5, 72, [Value.int .i64 0, Value.int .i64 0, Value.slice none 0 0, Value.int .i64 0, Value.slice none 0 0]), (78, 5, 72, [Value.int .i64 0, Value.int .i64 0, Value.slice none 0 0, Value.int .i64 0, Value.slice none 0 0]), (90, 1, 8, [Value.pointer none])]
def tabH : List (Nat × Sh) := [(2, .int .i64), (3, .int .i64), (4, .bool), (5, .int .u8), (9, .str), (12, .int .u64), (13, .agg [.str, .int .u64]), (21, .int .i32), (22, .slice), (24, .ptr), (25, .int .i64), (26, .tup [.ptr, .int .i64]), (29, .slice), (30, .slice), (31, .slice), (34, .int .u64), (35, .agg [.int .i64, .int .i64, .int .i64, .int .i64, .int .u64]), (36, .agg [.int .i64, .int .i64, .int .i64, .int .i64, .int .u64]), (40, .tup [.int .u64, .int .i64]), (47, .slice), (48, .agg [.int .i64, .int .i64, .slice, .slice]), (49, .agg [.int .i64, .int .i64, .slice, .slice]), (50, .tup [.agg [.int .i64, .int .i64, .slice, .slice], .bool]), (55, .ptr), (56, .tup [.ptr, .int .i64]), (59, .slice), (60, .agg [.int .i64, .slice]), (61, .agg [.int .i64, .slice]), (64, .agg [.slice, .int .i64, .slice]), (65, .agg [.slice, .int .i64, .slice]), (66, .int .u64), (68, .int .u32), (71, .ptr), (72, .tup [.ptr, .bool]), (75, .ptr), (77, .agg [.int .i64, .int .i64, .slice, .int .i64, .slice]), (78, .agg [.int .i64, .int .i64, .slice, .int .i64, .slice]), (90, .ptr)]
def tabF : List Nat := [3, 4, 5, 6, 7, 8, 9, 10, 11, 12, 13, 14, 15, 16, 17, 18, 19, 20, 21, 22, 23, 24, 25, 26, 27, 28, 29, 30, 31, 32, 33, 34, 35, 36, 37, 38, 39, 40, 41, 42, 43, 44, 45, 46, 47, 48, 49]
def tab : Tab := { und := tabU, siz := tabS, sh := tabH, fns := tabF }
theorem tabU_all : ∀ x ∈ tabU, (Try.prog.underlying x.1).map strip = some x.2 := by
  unfold tabU
  refine List.forall_mem_cons.2 ⟨by kernel_rfl, ?_⟩
  refine List.forall_mem_cons.2 ⟨by kernel_rfl, ?_⟩
  refine List.forall_mem_cons.2 ⟨by kernel_rfl, ?_⟩
  refine List.forall_mem_cons.2 ⟨by kernel_rfl, ?_⟩
  refine List.forall_mem_cons.2 ⟨by kernel_rfl, ?_⟩
  refine List.forall_mem_cons.2 ⟨by kernel_rfl, ?_⟩
  refine List.forall_mem_cons.2 ⟨by kernel_rfl, ?_⟩
  refine List.forall_mem_cons.2 ⟨by kernel_rfl, ?_⟩
  refine List.forall_mem_cons.2 ⟨by kernel_rfl, ?_⟩
  refine List.forall_mem_cons.2 ⟨by kernel_rfl, ?_⟩
  refine List.forall_mem_cons.2 ⟨by kernel_rfl, ?_⟩
  refine List.forall_mem_cons.2 ⟨by kernel_rfl, ?_⟩
  refine List.forall_mem_cons.2 ⟨by kernel_rfl, ?_⟩
  refine List.forall_mem_cons.2 ⟨by kernel_rfl, ?_⟩
  refine List.forall_mem_cons.2 ⟨by kernel_rfl, ?_⟩
  refine List.forall_mem_cons.2 ⟨by kernel_rfl, ?_⟩
  refine List.forall_mem_cons.2 ⟨by kernel_rfl, ?_⟩
  refine List.forall_mem_cons.2 ⟨by kernel_rfl, ?_⟩
  refine List.forall_mem_cons.2 ⟨by kernel_rfl, ?_⟩
  refine List.forall_mem_cons.2 ⟨by kernel_rfl, ?_⟩
  refine List.forall_mem_cons.2 ⟨by kernel_rfl, ?_⟩
  refine List.forall_mem_cons.2 ⟨by kernel_rfl, ?_⟩
  refine List.forall_mem_cons.2 ⟨by kernel_rfl, ?_⟩
  refine List.forall_mem_cons.2 ⟨by kernel_rfl, ?_⟩
  refine List.forall_mem_cons.2 ⟨by kernel_rfl, ?_⟩
  refine List.forall_mem_cons.2 ⟨by kernel_rfl, ?_⟩
  refine List.forall_mem_cons.2 ⟨by kernel_rfl, ?_⟩
  refine List.forall_mem_cons.2 ⟨by kernel_rfl, ?_⟩
  refine List.forall_mem_cons.2 ⟨by kernel_rfl, ?_⟩
  refine List.forall_mem_cons.2 ⟨by kernel_rfl, ?_⟩
  refine List.forall_mem_cons.2 ⟨by kernel_rfl, ?_⟩
  refine List.forall_mem_cons.2 ⟨by kernel_rfl, ?_⟩
  refine List.forall_mem_cons.2 ⟨by kernel_rfl, ?_⟩
  exact fun _ h => nomatch h
theorem tabS_all : ∀ x ∈ tabS, (Try.prog.info? x.1).map (fun i => (i.size, i.bytes, x.2.2.2.length, i.zero.map fun z => z.cells)) = some (x.2.1, x.2.2.1, x.2.1, some x.2.2.2.toArray) := by
  unfold tabS
  refine List.forall_mem_cons.2 ⟨by kernel_rfl, ?_⟩
  refine List.forall_mem_cons.2 ⟨by kernel_rfl, ?_⟩
  refine List.forall_mem_cons.2 ⟨by kernel_rfl, ?_⟩
  refine List.forall_mem_cons.2 ⟨by kernel_rfl, ?_⟩
  refine List.forall_mem_cons.2 ⟨by kernel_rfl, ?_⟩
  refine List.forall_mem_cons.2 ⟨by kernel_rfl, ?_⟩
  refine List.forall_mem_cons.2 ⟨by kernel_rfl, ?_⟩
  refine List.forall_mem_cons.2 ⟨by kernel_rfl, ?_⟩
  refine List.forall_mem_cons.2 ⟨by kernel_rfl, ?_⟩
  refine List.forall_mem_cons.2 ⟨by kernel_rfl, ?_⟩
  refine List.forall_mem_cons.2 ⟨by kernel_rfl, ?_⟩
  refine List.forall_mem_cons.2 ⟨by kernel_rfl, ?_⟩
  refine List.forall_mem_cons.2 ⟨by kernel_rfl, ?_⟩
  refine List.forall_mem_cons.2 ⟨by kernel_rfl, ?_⟩
  refine List.forall_mem_cons.2 ⟨by kernel_rfl, ?_⟩
  refine List.forall_mem_cons.2 ⟨by kernel_rfl, ?_⟩
  refine List.forall_mem_cons.2 ⟨by kernel_rfl, ?_⟩
  refine List.forall_mem_cons.2 ⟨by kernel_rfl, ?_⟩
  refine List.forall_mem_cons.2 ⟨by kernel_rfl, ?_⟩
  refine List.forall_mem_cons.2 ⟨by kernel_rfl, ?_⟩
  refine List.forall_mem_cons.2 ⟨by kernel_rfl, ?_⟩
  refine List.forall_mem_cons.2 ⟨by kernel_rfl, ?_⟩
  refine List.forall_mem_cons.2 ⟨by kernel_rfl, ?_⟩
  refine List.forall_mem_cons.2 ⟨by kernel_rfl, ?_⟩
  refine List.forall_mem_cons.2 ⟨by kernel_rfl, ?_⟩
  refine List.forall_mem_cons.2 ⟨by kernel_rfl, ?_⟩
  refine List.forall_mem_cons.2 ⟨by kernel_rfl, ?_⟩
  refine List.forall_mem_cons.2 ⟨by kernel_rfl, ?_⟩
  refine List.forall_mem_cons.2 ⟨by kernel_rfl, ?_⟩
  refine List.forall_mem_cons.2 ⟨by kernel_rfl, ?_⟩
  refine List.forall_mem_cons.2 ⟨by kernel_rfl, ?_⟩
  refine List.forall_mem_cons.2 ⟨by kernel_rfl, ?_⟩
  refine List.forall_mem_cons.2 ⟨by kernel_rfl, ?_⟩
  exact fun _ h => nomatch h
theorem tabF_all : ∀ x ∈ tabF, (Try.prog.funcs[x]?).map (fun fn => (fn.name == "runtime.NumGoroutine", fn.body.isNone)) = some (false, false) := by
  unfold tabF
  refine List.forall_mem_cons.2 ⟨by kernel_rfl, ?_⟩
  refine List.forall_mem_cons.2 ⟨by kernel_rfl, ?_⟩
  refine List.forall_mem_cons.2 ⟨by kernel_rfl, ?_⟩
  refine List.forall_mem_cons.2 ⟨by kernel_rfl, ?_⟩
  refine List.forall_mem_cons.2 ⟨by kernel_rfl, ?_⟩
  refine List.forall_mem_cons.2 ⟨by kernel_rfl, ?_⟩
  refine List.forall_mem_cons.2 ⟨by kernel_rfl, ?_⟩
  refine List.forall_mem_cons.2 ⟨by kernel_rfl, ?_⟩
  refine List.forall_mem_cons.2 ⟨by kernel_rfl, ?_⟩
  refine List.forall_mem_cons.2 ⟨by kernel_rfl, ?_⟩
  refine List.forall_mem_cons.2 ⟨by kernel_rfl, ?_⟩
  refine List.forall_mem_cons.2 ⟨by kernel_rfl, ?_⟩
  refine List.forall_mem_cons.2 ⟨by kernel_rfl, ?_⟩
  refine List.forall_mem_cons.2 ⟨by kernel_rfl, ?_⟩
  refine List.forall_mem_cons.2 ⟨by kernel_rfl, ?_⟩
  refine List.forall_mem_cons.2 ⟨by kernel_rfl, ?_⟩
  refine List.forall_mem_cons.2 ⟨by kernel_rfl, ?_⟩
  refine List.forall_mem_cons.2 ⟨by kernel_rfl, ?_⟩
  refine List.forall_mem_cons.2 ⟨by kernel_rfl, ?_⟩
  refine List.forall_mem_cons.2 ⟨by kernel_rfl, ?_⟩
  refine List.forall_mem_cons.2 ⟨by kernel_rfl, ?_⟩
  refine List.forall_mem_cons.2 ⟨by kernel_rfl, ?_⟩
  refine List.forall_mem_cons.2 ⟨by kernel_rfl, ?_⟩
  refine List.forall_mem_cons.2 ⟨by kernel_rfl, ?_⟩
  refine List.forall_mem_cons.2 ⟨by kernel_rfl, ?_⟩
  refine List.forall_mem_cons.2 ⟨by kernel_rfl, ?_⟩
  refine List.forall_mem_cons.2 ⟨by kernel_rfl, ?_⟩
  refine List.forall_mem_cons.2 ⟨by kernel_rfl, ?_⟩
  refine List.forall_mem_cons.2 ⟨by kernel_rfl, ?_⟩
  refine List.forall_mem_cons.2 ⟨by kernel_rfl, ?_⟩
  refine List.forall_mem_cons.2 ⟨by kernel_rfl, ?_⟩
  refine List.forall_mem_cons.2 ⟨by kernel_rfl, ?_⟩
  refine List.forall_mem_cons.2 ⟨by kernel_rfl, ?_⟩
  refine List.forall_mem_cons.2 ⟨by kernel_rfl, ?_⟩
  refine List.forall_mem_cons.2 ⟨by kernel_rfl, ?_⟩
  refine List.forall_mem_cons.2 ⟨by kernel_rfl, ?_⟩
  refine List.forall_mem_cons.2 ⟨by kernel_rfl, ?_⟩
  refine List.forall_mem_cons.2 ⟨by kernel_rfl, ?_⟩
  refine List.forall_mem_cons.2 ⟨by kernel_rfl, ?_⟩
  refine List.forall_mem_cons.2 ⟨by kernel_rfl, ?_⟩
  refine List.forall_mem_cons.2 ⟨by kernel_rfl, ?_⟩
  refine List.forall_mem_cons.2 ⟨by kernel_rfl, ?_⟩
  refine List.forall_mem_cons.2 ⟨by kernel_rfl, ?_⟩
  refine List.forall_mem_cons.2 ⟨by kernel_rfl, ?_⟩
  refine List.forall_mem_cons.2 ⟨by kernel_rfl, ?_⟩
  refine List.forall_mem_cons.2 ⟨by kernel_rfl, ?_⟩
  refine List.forall_mem_cons.2 ⟨by kernel_rfl, ?_⟩
  exact fun _ h => nomatch h
theorem tab_ok : tab.Ok Try.prog := ⟨tabOk_und _ tabU_all, tabOk_siz _ tabS_all, tabOk_fns _ tabF_all, by kernel_rfl⟩
end Go.Proofs.Ytodbmiflnellcaa.V
