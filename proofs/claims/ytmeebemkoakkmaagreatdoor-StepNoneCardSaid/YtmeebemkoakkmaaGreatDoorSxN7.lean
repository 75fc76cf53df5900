import Derived.Test.YtmeebemkoakkmaaGreatDoorSxM29c
import Derived.Test.YtmeebemkoakkmaaGreatDoorSxCl
set_option linter.all false
set_option linter.constructorNameAsVariable false
set_option maxRecDepth 100000
noncomputable section
namespace Go.Sx
open Go Go.Proofs Go.RowKit
theorem run7 (w : Int) : isTrue (enterR Tryz.prog (runC Tryz.prog (autoC Tryz.prog T2 30) T2 3000) 7 [.lit .u32 w] [] 0) = true := by kernel_rfl
theorem none_walk (n : Int) (W : World) (hB : GB ⟨W, fun _ => False⟩) : Calls Tryz.prog 7 #[.int .u32 n] W fun e W' => e = .returned (.bool true) ∧ Below W.heap.size W W' := by
  obtain ⟨hp, nx, hr⟩ := isTrue_run (run7 n)
  exact run_calls (symC_ok fixOk_lit (autoC_ok gOk hm T2_ok 30) T2_ok hm 3000 noHints) (runC_sym 3000) hr rfl rfl hB ⟨fun _ => 0, fun _ => 0, fun _ => undef⟩
end Go.Sx
