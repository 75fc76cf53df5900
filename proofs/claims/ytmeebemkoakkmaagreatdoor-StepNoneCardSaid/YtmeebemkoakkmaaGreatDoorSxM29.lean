import Derived.Test.YtmeebemkoakkmaaGreatDoorSxMM
import Derived.Test.YtmeebemkoakkmaaGreatDoorSxTz
set_option linter.all false
/-
  The calls that the chapter's example comes to, run ahead.
-/
set_option linter.constructorNameAsVariable false
set_option maxRecDepth 100000
noncomputable section
namespace Go.Sx
open Go Go.Proofs
def T0 : Ctab := ctab [(256, tzC)]
theorem T0_ok : CtabOk Tryz.prog GB T0 := ctab_cons tz_ok ctab_nil
def inst1 : SV := .agg [.lit .u8 7, .lit .u8 0, .lit .u8 0, .lit .u8 0, .lit .u8 1, .lit .u8 2, .lit .u8 3, .lit .u8 0, .lit .u8 1, .lit .i16 0, .lit .u8 0]
def inst0 : SV := .agg [.lit .u8 0, .lit .u8 0, .lit .u8 0, .lit .u8 0, .lit .u8 0, .lit .u8 0, .lit .u8 0, .lit .u8 0, .lit .u8 0, .lit .i16 0, .lit .u8 0]
def tab54 : List (List SV × SV) := [([.lit .u32 3215571], .tup [inst1, .lit .i64 0]), ([.lit .u32 0], .tup [inst0, .lit .i64 250])]
def tab55 : List (List SV × SV) := [([inst1], .tup [.lit .u8 4, .lit .i64 0])]
def tab103 : List (List SV × SV) := [([.lit .u8 0, .lit .u8 1, .agg [.lit .u64 0, .lit .u64 1065353216], .agg [.lit .u64 0, .lit .u64 864026624]], .tup [.agg [.lit .u64 0, .lit .u64 1065353216], .lit .u8 1, .lit .i64 0])]
def run0 (f : Nat) (vs : List SV) : Option (List Ob × SV) := runSpec Tryz.prog (runC Tryz.prog (autoC Tryz.prog T0 30) T0 3000) f vs
theorem run54a : run0 54 [.lit .u32 3215571] = some ([], .tup [inst1, .lit .i64 0]) := by kernel_rfl
theorem run54b : run0 54 [.lit .u32 0] = some ([], .tup [inst0, .lit .i64 250]) := by kernel_rfl
theorem run55 : run0 55 [inst1] = some ([], .tup [.lit .u8 4, .lit .i64 0]) := by kernel_rfl
theorem m54 : (pureC (memoSpec tab54)).ok Tryz.prog GB 54 := memo_ok (n := 30) (m := 3000) gOk hm T0_ok fun x hx => by
  rcases List.mem_cons.1 hx with rfl | hx
  · exact run54a
  · rcases List.mem_cons.1 hx with rfl | hx
    · exact run54b
    · cases hx
theorem m55 : (pureC (memoSpec tab55)).ok Tryz.prog GB 55 := memo_ok (n := 30) (m := 3000) gOk hm T0_ok fun x hx => by
  rcases List.mem_cons.1 hx with rfl | hx
  · exact run55
  · cases hx
end Go.Sx
