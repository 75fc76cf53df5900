import Derived.Test.YtmeebemkoakkmaaGreatDoorSxM29b
set_option linter.all false
set_option linter.constructorNameAsVariable false
set_option maxRecDepth 100000
noncomputable section
namespace Go.Sx
open Go Go.Proofs
def run1 (f : Nat) (vs : List SV) : Option (List Ob × SV) := runSpec Tryz.prog (runC Tryz.prog (autoC Tryz.prog T1 30) T1 3000) f vs
theorem run9 : run1 9 [] = some ([], .lb true) := by kernel_rfl
def tab9 : List (List SV × SV) := [([], .lb true)]
theorem m9 : (pureC (memoSpec tab9)).ok Tryz.prog GB 9 := memo_ok (n := 30) (m := 3000) gOk hm T1_ok fun x hx => by
  rcases List.mem_cons.1 hx with rfl | hx
  · exact run9
  · cases hx
def T2 : Ctab := ctab [(9, pureC (memoSpec tab9)), (256, tzC)]
theorem T2_ok : CtabOk Tryz.prog GB T2 := ctab_cons m9 (ctab_cons tz_ok ctab_nil)
end Go.Sx
