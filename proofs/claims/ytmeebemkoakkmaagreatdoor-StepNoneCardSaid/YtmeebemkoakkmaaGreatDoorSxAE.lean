import Derived.Test.YtmeebemkoakkmaaGreatDoorSxAD
set_option linter.all false
/-
  Contracts by running, whatever is handed in; a closed call.
-/
set_option linter.constructorNameAsVariable false
noncomputable section
namespace Go.Sx
open Go
theorem autoFC_ok {P : Program} {GB : Base → Prop} (hG : GOk GB) {rC : RunC} {sC : Bool → Code → St → SK → Prop} (hC : CodeOk P GB sC) (hrel : RunRel rC sC) (f : FuncId) : (autoFC P rC f).ok P GB f := by
  intro B hB η hp w key vs e p hp0 hs hR hf hmn
  replace hs : (autoRes P rC f key (hget hp) vs).sat e := by simpa only [autoFC] using hs
  exact autoRes_ok hG hC hrel f hB hp0 hs hR hf hmn
theorem autoC_ok {P : Program} {GB : Base → Prop} (hG : GOk GB) (hm : P.follows .mixedOrders = true) {T : Ctab} (hT : CtabOk P GB T) : ∀ n, CtabOk P GB (autoC P T n)
  | 0 => hT
  | n + 1 => fun f C h => by
    simp only [autoC] at h
    split at h
    · rename_i D hD
      simp only [Option.some.injEq] at h; subst h; exact hT f _ hD
    · simp only [Option.some.injEq] at h; subst h
      obtain ⟨m, hm3⟩ : ∃ m, m = 3000 := ⟨_, rfl⟩
      rw [← hm3]
      exact autoFC_ok hG (symC_ok fixOk_lit (autoC_ok hG hm hT n) hT hm m noHints) (runC_sym m) f
/-- a call comes to `true` -/
def isTrue : Option (CExit × Hp × Nat) → Bool
  | some (.ret (.lb true), _, _) => true
  | _ => false
end Go.Sx
