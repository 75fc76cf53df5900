import Derived.Test.YtmeebemkoakkmaaGreatDoorSxM29
set_option linter.all false
set_option linter.constructorNameAsVariable false
set_option maxRecDepth 100000
noncomputable section
namespace Go.Sx
open Go Go.Proofs
theorem run103 : run0 103 [.lit .u8 0, .lit .u8 1, .agg [.lit .u64 0, .lit .u64 1065353216], .agg [.lit .u64 0, .lit .u64 864026624]] = some ([], .tup [.agg [.lit .u64 0, .lit .u64 1065353216], .lit .u8 1, .lit .i64 0]) := by kernel_rfl
theorem m103 : (pureC (memoSpec tab103)).ok Tryz.prog GB 103 := memo_ok (n := 30) (m := 3000) gOk hm T0_ok fun x hx => by
  rcases List.mem_cons.1 hx with rfl | hx
  · exact run103
  · cases hx
def T1 : Ctab := ctab [(54, pureC (memoSpec tab54)), (55, pureC (memoSpec tab55)), (103, pureC (memoSpec tab103)), (256, tzC)]
theorem T1_ok : CtabOk Tryz.prog GB T1 := ctab_cons m54 (ctab_cons m55 (ctab_cons m103 (ctab_cons tz_ok ctab_nil)))
end Go.Sx
