import Derived.Test.YtmeebemkoakkmaaGreatDoorSxZ
set_option linter.all false
/-
  Contracts of functions of values by running them.
-/
noncomputable section
namespace Go.Sx
open Go
/-- what a run of a function of values yields -/
def runSpec (P : Program) (rC : RunC) (f : FuncId) (vs : List SV) : Option (List Ob × SV) :=
  match enterR P rC f (lits vs) [] 0 with
  | some (.ret v, _, _) => match v.men (fun _ => true) with
    | false => some ([], v)
    | true => none
  | _ => none
theorem runSpec_ok {P : Program} {GB : Base → Prop} (hG : GOk GB) {rC : RunC} {sC : Bool → Code → St → SK → Prop} (hC : CodeOk P GB sC) (hrel : RunRel rC sC) (f : FuncId) : (pureC (runSpec P rC f)).ok P GB f := by
  refine pureC_ok' hG hC fun vs o v hs hm ho => ?_
  unfold runSpec at hs
  split at hs
  · rename_i u hp' nx' hr
    split at hs
    · rename_i hu
      simp only [Option.some.injEq, Prod.mk.injEq] at hs
      obtain ⟨rfl, rfl⟩ := hs
      refine ⟨hu, lits vs, fun η => lits_den η vs, by rw [lits_men]; exact hm, ?_⟩
      exact enterR_sym hrel hr ⟨_, rfl, fun _ => rfl⟩
    · cases hs
  · cases hs
/-- the contracts that are known; all others by running -/
def autoT (P : Program) (T : Ctab) : Nat → Ctab
  | 0 => T
  | n + 1 => fun f => match T f with
    | some C => some C
    | none => some (pureC (runSpec P (runC P (autoT P T n) T 3000) f))
theorem autoT_ok {P : Program} {GB : Base → Prop} (hG : GOk GB) (hm : P.follows .mixedOrders = true) {T : Ctab} (hT : CtabOk P GB T) : ∀ n, CtabOk P GB (autoT P T n)
  | 0 => hT
  | n + 1 => fun f C h => by
    simp only [autoT] at h
    split at h
    · rename_i D hD
      simp only [Option.some.injEq] at h; subst h; exact hT f _ hD
    · simp only [Option.some.injEq] at h; subst h
      exact runSpec_ok hG (symC_ok fixOk_lit (autoT_ok hG hm hT n) hT hm 3000 noHints) (runC_sym 3000) f
end Go.Sx
