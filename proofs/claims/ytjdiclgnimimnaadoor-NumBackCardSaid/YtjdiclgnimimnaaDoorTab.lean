/-
  The types of the program and its functions that have a body. By program (tab.py).
-/
import Derived.Test.YtjdiclgnimimnaaDoorDenK
import Derived.Test.YtjdiclgnimimnaaDoorRows
namespace Go.Proofs.YtjdiclgnimimnaaDoor.V
open Go Go.RowKit

def tabU : List (Nat × TD) := [(2, .int .i64), (3, .int .i64), (4, .bool), (5, .int .u8), (9, .string), (12, .int .u64), (13, .struct [(0, 9), (1, 12)]), (21, .int .i32), (31, .int .u64), (32, .int .u64), (39, .iface), (43, .slice 5), (48, .pointer 61), (52, .array 24 5), (60, .struct [(0, 9), (1, 9), (2, 39)]), (61, .struct [(0, 9), (1, 9), (2, 39)]), (65, .array 20 31), (66, .int .u32), (67, .array 65 5), (70, .pointer 5), (71, .pointer 73), (72, .struct [(0, 9)]), (73, .struct [(0, 9)]), (75, .array 32 5), (76, .array 64 5)]
def tabS : List (Nat × Nat × Nat × List Value) := [(2, 1, 8, [Value.int .i64 0]), (3, 1, 8, [Value.int .i64 0]), (4, 1, 1, [Value.bool false]), (5, 1, 1, [Value.int .u8 0]), (9, 1, 16, [Value.string ⟨#[]⟩]), (12, 1, 8, [Value.int .u64 0]), (13, 2, 24, [Value.string ⟨#[]⟩, Value.int .u64 0]), (21, 1, 4, [Value.int .i32 0]), (31, 1, 8, [Value.int .u64 0]), (32, 1, 8, [Value.int .u64 0]), (43, 1, 24, [Value.slice none 0 0]), (48, 1, 8, [Value.pointer none]), (52, 24, 24, [Value.int .u8 0, Value.int .u8 0, Value.int .u8 0, Value.int .u8 0, Value.int .u8 0, Value.int .u8 0, Value.int .u8 0, Value.int .u8 0, Value.int .u8 0, Value.int .u8 0, Value.int .u8 0, Value.int .u8 0, Value.int .u8 0, Value.int .u8 0, Value.int .u8 0, Value.int .u8 0, Value.int .u8 0, Value.int .u8 0, Value.int .u8 0, Value.int .u8 0, Value.int .u8 0, Value.int .u8 0, Value.int .u8 0, Value.int .u8 0]), (60, 3, 48, [Value.string ⟨#[]⟩, Value.string ⟨#[]⟩, Value.nilIface]), (61, 3, 48, [Value.string ⟨#[]⟩, Value.string ⟨#[]⟩, Value.nilIface]), (65, 20, 160, [Value.int .u64 0, Value.int .u64 0, Value.int .u64 0, Value.int .u64 0, Value.int .u64 0, Value.int .u64 0, Value.int .u64 0, Value.int .u64 0, Value.int .u64 0, Value.int .u64 0, Value.int .u64 0, Value.int .u64 0, Value.int .u64 0, Value.int .u64 0, Value.int .u64 0, Value.int .u64 0, Value.int .u64 0, Value.int .u64 0, Value.int .u64 0, Value.int .u64 0]), (66, 1, 4, [Value.int .u32 0]), (67, 65, 65, [Value.int .u8 0, Value.int .u8 0, Value.int .u8 0, Value.int .u8 0, Value.int .u8 0, Value.int .u8 0, Value.int .u8 0, Value.int .u8 0, Value.int .u8 0, Value.int .u8 0, Value.int .u8 0, Value.int .u8 0, Value.int .u8 0, Value.int .u8 0, Value.int .u8 0, Value.int .u8 0, Value.int .u8 0, Value.int .u8 0, Value.int .u8 0, Value.int .u8 0, Value.int .u8 0, Value.int .u8 0, Value.int .u8 0, Value.int .u8 0, Value.int .u8 0, Value.int .u8 0, Value.int .u8 0, Value.int .u8 0, Value.int .u8 0, Value.int .u8 0, Value.int .u8 0, Value.int .u8 0, Value.int .u8 0, Value.int .u8 0, Value.int .u8 0, Value.int .u8 0, Value.int .u8 0, Value.int .u8 0, Value.int .u8 0, Value.int .u8 0, Value.int .u8 0, Value.int .u8 0, Value.int .u8 0, Value.int .u8 0, Value.int .u8 0, Value.int .u8 0, Value.int .u8 0, Value.int .u8 0, Value.int .u8 0, Value.int .u8 0, Value.int .u8 0, Value.int .u8 0, Value.int .u8 0, Value.int .u8 0, Value.int .u8 0, Value.int .u8 0, Value.int .u8 0, Value.int .u8 0, Value.int .u8 0, Value.int .u8 0, Value.int .u8 0, Value.int .u8 0, Value.int .u8 0, Value.int .u8 0, Value.int .u8 0]), (70, 1, 8, [Value.pointer none]), (71, 1, 8, [Value.pointer none]), (72, 1, 16, [Value.string ⟨#[]⟩]), (73, 1, 16, [Value.string ⟨#[]⟩]), (75, 32, 32, [Value.int .u8 0, Value.int .u8 0, Value.int .u8 0, Value.int .u8 0, Value.int .u8 0, Value.int .u8 0, Value.int .u8 0, Value.int .u8 0, Value.int .u8 0, Value.int .u8 0, Value.int .u8 0, Value.int .u8 0, Value.int .u8 0, Value.int .u8 0, Value.int .u8 0, Value.int .u8 0, Value.int .u8 0, Value.int .u8 0, Value.int .u8 0, Value.int .u8 0, Value.int .u8 0, Value.int .u8 0, Value.int .u8 0, Value.int .u8 0, Value.int .u8 0, Value.int .u8 0, Value.int .u8 0, Value.int .u8 0, Value.int .u8 0, Value.int .u8 0, Value.int .u8 0, Value.int .u8 0]), (76, 64, 64, [Value.int .u8 0, Value.int .u8 0, Value.int .u8 0, Value.int .u8 0, Value.int .u8 0, Value.int .u8 0, Value.int .u8 0, Value.int .u8 0, Value.int .u8 0, Value.int .u8 0, Value.int .u8 0, Value.int .u8 0, Value.int .u8 0, Value.int .u8 0, Value.int .u8 0, Value.int .u8 0, Value.int .u8 0, Value.int .u8 0, Value.int .u8 0, Value.int .u8 0, Value.int .u8 0, Value.int .u8 0, Value.int .u8 0, Value.int .u8 0, Value.int .u8 0, Value.int .u8 0, Value.int .u8 0, Value.int .u8 0, Value.int .u8 0, Value.int .u8 0, Value.int .u8 0, Value.int .u8 0, Value.int .u8 0, Value.int .u8 0, Value.int .u8 0, Value.int .u8 0, Value.int .u8 0, Value.int .u8 0, Value.int .u8 0, Value.int .u8 0, Value.int .u8 0, Value.int .u8 0, Value.int .u8 0, Value.int .u8 0, Value.int .u8 0, Value.int .u8 0, Value.int .u8 0, Value.int .u8 0, Value.int .u8 0, Value.int .u8 0, Value.int .u8 0, Value.int .u8 0, Value.int .u8 0, Value.int .u8 0, Value.int .u8 0, Value.int .u8 0, Value.int .u8 0, Value.int .u8 0, Value.int .u8 0, Value.int .u8 0, Value.int .u8 0, Value.int .u8 0, Value.int .u8 0, Value.int .u8 0])]
def tabH : List (Nat × Sh) := [(2, .int .i64), (3, .int .i64), (4, .bool), (5, .int .u8), (9, .str), (12, .int .u64), (13, .agg [.str, .int .u64]), (21, .int .i32), (25, .tup [.int .i64, .bool]), (31, .int .u64), (32, .int .u64), (35, .tup [.int .u64, .int .u64]), (40, .tup [.int .i64, .raw]), (43, .slice), (46, .tup [.int .u64, .raw]), (48, .ptr), (52, .agg [.int .u8, .int .u8, .int .u8, .int .u8, .int .u8, .int .u8, .int .u8, .int .u8, .int .u8, .int .u8, .int .u8, .int .u8, .int .u8, .int .u8, .int .u8, .int .u8, .int .u8, .int .u8, .int .u8, .int .u8, .int .u8, .int .u8, .int .u8, .int .u8]), (55, .tup [.slice, .str]), (60, .agg [.str, .str, .raw]), (61, .agg [.str, .str, .raw]), (65, .agg [.int .u64, .int .u64, .int .u64, .int .u64, .int .u64, .int .u64, .int .u64, .int .u64, .int .u64, .int .u64, .int .u64, .int .u64, .int .u64, .int .u64, .int .u64, .int .u64, .int .u64, .int .u64, .int .u64, .int .u64]), (66, .int .u32), (67, .agg [.int .u8, .int .u8, .int .u8, .int .u8, .int .u8, .int .u8, .int .u8, .int .u8, .int .u8, .int .u8, .int .u8, .int .u8, .int .u8, .int .u8, .int .u8, .int .u8, .int .u8, .int .u8, .int .u8, .int .u8, .int .u8, .int .u8, .int .u8, .int .u8, .int .u8, .int .u8, .int .u8, .int .u8, .int .u8, .int .u8, .int .u8, .int .u8, .int .u8, .int .u8, .int .u8, .int .u8, .int .u8, .int .u8, .int .u8, .int .u8, .int .u8, .int .u8, .int .u8, .int .u8, .int .u8, .int .u8, .int .u8, .int .u8, .int .u8, .int .u8, .int .u8, .int .u8, .int .u8, .int .u8, .int .u8, .int .u8, .int .u8, .int .u8, .int .u8, .int .u8, .int .u8, .int .u8, .int .u8, .int .u8, .int .u8]), (70, .ptr), (71, .ptr), (72, .agg [.str]), (73, .agg [.str]), (75, .agg [.int .u8, .int .u8, .int .u8, .int .u8, .int .u8, .int .u8, .int .u8, .int .u8, .int .u8, .int .u8, .int .u8, .int .u8, .int .u8, .int .u8, .int .u8, .int .u8, .int .u8, .int .u8, .int .u8, .int .u8, .int .u8, .int .u8, .int .u8, .int .u8, .int .u8, .int .u8, .int .u8, .int .u8, .int .u8, .int .u8, .int .u8, .int .u8]), (76, .agg [.int .u8, .int .u8, .int .u8, .int .u8, .int .u8, .int .u8, .int .u8, .int .u8, .int .u8, .int .u8, .int .u8, .int .u8, .int .u8, .int .u8, .int .u8, .int .u8, .int .u8, .int .u8, .int .u8, .int .u8, .int .u8, .int .u8, .int .u8, .int .u8, .int .u8, .int .u8, .int .u8, .int .u8, .int .u8, .int .u8, .int .u8, .int .u8, .int .u8, .int .u8, .int .u8, .int .u8, .int .u8, .int .u8, .int .u8, .int .u8, .int .u8, .int .u8, .int .u8, .int .u8, .int .u8, .int .u8, .int .u8, .int .u8, .int .u8, .int .u8, .int .u8, .int .u8, .int .u8, .int .u8, .int .u8, .int .u8, .int .u8, .int .u8, .int .u8, .int .u8, .int .u8, .int .u8, .int .u8, .int .u8])]
def tabF : List Nat := [3, 4, 5, 6, 7, 8, 9, 10, 11, 12, 13, 14, 15, 16, 17, 18, 19, 20, 21, 22, 23, 24, 25, 26, 27, 28, 29, 30, 31, 32, 33, 34, 35, 36, 37, 38, 39, 40, 41, 42, 43, 44, 45, 46, 47, 48, 49, 50, 51, 52, 53, 54, 55, 56, 57, 58, 85]
def tab : Tab := { und := tabU, siz := tabS, sh := tabH, fns := tabF }
theorem tabU_all : ∀ x ∈ tabU, (Tryd.prog.underlying x.1).map strip = some x.2 := by
  unfold tabU
  refine List.forall_mem_cons.2 ⟨by kernel_rfl, ?_⟩
  refine List.forall_mem_cons.2 ⟨by kernel_rfl, ?_⟩
  refine List.forall_mem_cons.2 ⟨by kernel_rfl, ?_⟩
  refine List.forall_mem_cons.2 ⟨by kernel_rfl, ?_⟩
  refine List.forall_mem_cons.2 ⟨by kernel_rfl, ?_⟩
  refine List.forall_mem_cons.2 ⟨by kernel_rfl, ?_⟩
  refine List.forall_mem_cons.2 ⟨by kernel_rfl, ?_⟩
  refine List.forall_mem_cons.2 ⟨by kernel_rfl, ?_⟩
  refine List.forall_mem_cons.2 ⟨by kernel_rfl, ?_⟩
  refine List.forall_mem_cons.2 ⟨by kernel_rfl, ?_⟩
  refine List.forall_mem_cons.2 ⟨by kernel_rfl, ?_⟩
  refine List.forall_mem_cons.2 ⟨by kernel_rfl, ?_⟩
  refine List.forall_mem_cons.2 ⟨by kernel_rfl, ?_⟩
  refine List.forall_mem_cons.2 ⟨by kernel_rfl, ?_⟩
  refine List.forall_mem_cons.2 ⟨by kernel_rfl, ?_⟩
  refine List.forall_mem_cons.2 ⟨by kernel_rfl, ?_⟩
  refine List.forall_mem_cons.2 ⟨by kernel_rfl, ?_⟩
  refine List.forall_mem_cons.2 ⟨by kernel_rfl, ?_⟩
  refine List.forall_mem_cons.2 ⟨by kernel_rfl, ?_⟩
  refine List.forall_mem_cons.2 ⟨by kernel_rfl, ?_⟩
  refine List.forall_mem_cons.2 ⟨by kernel_rfl, ?_⟩
  refine List.forall_mem_cons.2 ⟨by kernel_rfl, ?_⟩
  refine List.forall_mem_cons.2 ⟨by kernel_rfl, ?_⟩
  refine List.forall_mem_cons.2 ⟨by kernel_rfl, ?_⟩
  refine List.forall_mem_cons.2 ⟨by kernel_rfl, ?_⟩
  exact fun _ h => nomatch h
theorem tabS_all : ∀ x ∈ tabS, (Tryd.prog.info? x.1).map (fun i => (i.size, i.bytes, x.2.2.2.length, i.zero.map fun z => z.cells)) = some (x.2.1, x.2.2.1, x.2.1, some x.2.2.2.toArray) := by
  unfold tabS
  refine List.forall_mem_cons.2 ⟨by kernel_rfl, ?_⟩
  refine List.forall_mem_cons.2 ⟨by kernel_rfl, ?_⟩
  refine List.forall_mem_cons.2 ⟨by kernel_rfl, ?_⟩
  refine List.forall_mem_cons.2 ⟨by kernel_rfl, ?_⟩
  refine List.forall_mem_cons.2 ⟨by kernel_rfl, ?_⟩
  refine List.forall_mem_cons.2 ⟨by kernel_rfl, ?_⟩
  refine List.forall_mem_cons.2 ⟨by kernel_rfl, ?_⟩
  refine List.forall_mem_cons.2 ⟨by kernel_rfl, ?_⟩
  refine List.forall_mem_cons.2 ⟨by kernel_rfl, ?_⟩
  refine List.forall_mem_cons.2 ⟨by kernel_rfl, ?_⟩
  refine List.forall_mem_cons.2 ⟨by kernel_rfl, ?_⟩
  refine List.forall_mem_cons.2 ⟨by kernel_rfl, ?_⟩
  refine List.forall_mem_cons.2 ⟨by kernel_rfl, ?_⟩
  refine List.forall_mem_cons.2 ⟨by kernel_rfl, ?_⟩
  refine List.forall_mem_cons.2 ⟨by kernel_rfl, ?_⟩
  refine List.forall_mem_cons.2 ⟨by kernel_rfl, ?_⟩
  refine List.forall_mem_cons.2 ⟨by kernel_rfl, ?_⟩
  refine List.forall_mem_cons.2 ⟨by kernel_rfl, ?_⟩
  refine List.forall_mem_cons.2 ⟨by kernel_rfl, ?_⟩
  refine List.forall_mem_cons.2 ⟨by kernel_rfl, ?_⟩
  refine List.forall_mem_cons.2 ⟨by kernel_rfl, ?_⟩
  refine List.forall_mem_cons.2 ⟨by kernel_rfl, ?_⟩
  refine List.forall_mem_cons.2 ⟨by kernel_rfl, ?_⟩
  refine List.forall_mem_cons.2 ⟨by kernel_rfl, ?_⟩
  exact fun _ h => nomatch h
theorem tabF_all : ∀ x ∈ tabF, (Tryd.prog.funcs[x]?).map (fun fn => (fn.name == "runtime.NumGoroutine", fn.body.isNone)) = some (false, false) := by
  unfold tabF
  refine List.forall_mem_cons.2 ⟨by kernel_rfl, ?_⟩
  refine List.forall_mem_cons.2 ⟨by kernel_rfl, ?_⟩
  refine List.forall_mem_cons.2 ⟨by kernel_rfl, ?_⟩
  refine List.forall_mem_cons.2 ⟨by kernel_rfl, ?_⟩
  refine List.forall_mem_cons.2 ⟨by kernel_rfl, ?_⟩
  refine List.forall_mem_cons.2 ⟨by kernel_rfl, ?_⟩
  refine List.forall_mem_cons.2 ⟨by kernel_rfl, ?_⟩
  refine List.forall_mem_cons.2 ⟨by kernel_rfl, ?_⟩
  refine List.forall_mem_cons.2 ⟨by kernel_rfl, ?_⟩
  refine List.forall_mem_cons.2 ⟨by kernel_rfl, ?_⟩
  refine List.forall_mem_cons.2 ⟨by kernel_rfl, ?_⟩
  refine List.forall_mem_cons.2 ⟨by kernel_rfl, ?_⟩
  refine List.forall_mem_cons.2 ⟨by kernel_rfl, ?_⟩
  refine List.forall_mem_cons.2 ⟨by kernel_rfl, ?_⟩
  refine List.forall_mem_cons.2 ⟨by kernel_rfl, ?_⟩
  refine List.forall_mem_cons.2 ⟨by kernel_rfl, ?_⟩
  refine List.forall_mem_cons.2 ⟨by kernel_rfl, ?_⟩
  refine List.forall_mem_cons.2 ⟨by kernel_rfl, ?_⟩
  refine List.forall_mem_cons.2 ⟨by kernel_rfl, ?_⟩
  refine List.forall_mem_cons.2 ⟨by kernel_rfl, ?_⟩
  refine List.forall_mem_cons.2 ⟨by kernel_rfl, ?_⟩
  refine List.forall_mem_cons.2 ⟨by kernel_rfl, ?_⟩
  refine List.forall_mem_cons.2 ⟨by kernel_rfl, ?_⟩
  refine List.forall_mem_cons.2 ⟨by kernel_rfl, ?_⟩
  refine List.forall_mem_cons.2 ⟨by kernel_rfl, ?_⟩
  refine List.forall_mem_cons.2 ⟨by kernel_rfl, ?_⟩
  refine List.forall_mem_cons.2 ⟨by kernel_rfl, ?_⟩
  refine List.forall_mem_cons.2 ⟨by kernel_rfl, ?_⟩
  refine List.forall_mem_cons.2 ⟨by kernel_rfl, ?_⟩
  refine List.forall_mem_cons.2 ⟨by kernel_rfl, ?_⟩
  refine List.forall_mem_cons.2 ⟨by kernel_rfl, ?_⟩
  refine List.forall_mem_cons.2 ⟨by kernel_rfl, ?_⟩
  refine List.forall_mem_cons.2 ⟨by kernel_rfl, ?_⟩
  refine List.forall_mem_cons.2 ⟨by kernel_rfl, ?_⟩
  refine List.forall_mem_cons.2 ⟨by kernel_rfl, ?_⟩
  refine List.forall_mem_cons.2 ⟨by kernel_rfl, ?_⟩
  refine List.forall_mem_cons.2 ⟨by kernel_rfl, ?_⟩
  refine List.forall_mem_cons.2 ⟨by kernel_rfl, ?_⟩
  refine List.forall_mem_cons.2 ⟨by kernel_rfl, ?_⟩
  refine List.forall_mem_cons.2 ⟨by kernel_rfl, ?_⟩
  refine List.forall_mem_cons.2 ⟨by kernel_rfl, ?_⟩
  refine List.forall_mem_cons.2 ⟨by kernel_rfl, ?_⟩
  refine List.forall_mem_cons.2 ⟨by kernel_rfl, ?_⟩
  refine List.forall_mem_cons.2 ⟨by kernel_rfl, ?_⟩
  refine List.forall_mem_cons.2 ⟨by kernel_rfl, ?_⟩
  refine List.forall_mem_cons.2 ⟨by kernel_rfl, ?_⟩
  refine List.forall_mem_cons.2 ⟨by kernel_rfl, ?_⟩
  refine List.forall_mem_cons.2 ⟨by kernel_rfl, ?_⟩
  refine List.forall_mem_cons.2 ⟨by kernel_rfl, ?_⟩
  refine List.forall_mem_cons.2 ⟨by kernel_rfl, ?_⟩
  refine List.forall_mem_cons.2 ⟨by kernel_rfl, ?_⟩
  refine List.forall_mem_cons.2 ⟨by kernel_rfl, ?_⟩
  refine List.forall_mem_cons.2 ⟨by kernel_rfl, ?_⟩
  refine List.forall_mem_cons.2 ⟨by kernel_rfl, ?_⟩
  refine List.forall_mem_cons.2 ⟨by kernel_rfl, ?_⟩
  refine List.forall_mem_cons.2 ⟨by kernel_rfl, ?_⟩
  refine List.forall_mem_cons.2 ⟨by kernel_rfl, ?_⟩
  exact fun _ h => nomatch h
theorem tab_ok : tab.Ok Tryd.prog := ⟨tabOk_und _ tabU_all, tabOk_siz _ tabS_all, tabOk_fns _ tabF_all, by kernel_rfl⟩
end Go.Proofs.YtjdiclgnimimnaaDoor.V
