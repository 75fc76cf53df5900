import Derived.Test.YtmeebemkoakkmaaGreatDoorSxAE
set_option linter.all false
/-
  Calls of functions of values that were run ahead.
-/
set_option linter.constructorNameAsVariable false
noncomputable section
namespace Go.Sx
open Go
mutual
theorem SV.lit_lit : ∀ v : SV, v.lit'.lit' = v.lit'
  | .int k n => rfl
  | .bool b => rfl
  | .agg cs => by rw [SV.lit', SV.lit', lits_lits cs]
  | .tup cs => by rw [SV.lit', SV.lit', lits_lits cs]
  | .lit .. | .lb _ | .str _ | .ptr .. | .pti .. | .nilp | .sl .. | .nils | .fn .. | .nilf | .iface .. | .nili | .val _ | .jk _ | .yl _ | .mref _ => rfl
theorem lits_lits : ∀ vs : List SV, lits (lits vs) = lits vs
  | [] => rfl
  | v :: vs => by rw [lits, lits, SV.lit_lit v, lits_lits vs]
end
def memoSpec : List (List SV × SV) → List SV → Option (List Ob × SV)
  | [], _ => none
  | x :: r, vs => match sames (lits vs) x.1 with
    | true => some ([], x.2)
    | false => memoSpec r vs
theorem pureC_sub {P : Program} {GB : Base → Prop} {f : FuncId} {spec spec' : List SV → Option (List Ob × SV)} (h : ∀ vs r, spec vs = some r → spec' vs = some r) (hok : (pureC spec').ok P GB f) : (pureC spec).ok P GB f := by
  intro B hB η hp w key vs e p hp0 hs hR hf hm
  refine hok B hB η hp w key vs e p hp0 ?_ hR hf hm
  simp only [pureC] at hs ⊢
  cases hmn : mens (fun _ => true) vs with
  | true => rw [hmn] at hs; exact hs
  | false =>
    rw [hmn] at hs
    simp only at hs ⊢
    cases hsp : spec (unls vs) with
    | none => rw [hsp] at hs; exact hs.elim
    | some r => rw [hsp] at hs; rw [h _ _ hsp]; exact hs
theorem memo_run {P : Program} {rC : RunC} {f : FuncId} : ∀ {tab : List (List SV × SV)}, (∀ x ∈ tab, runSpec P rC f x.1 = some ([], x.2)) → ∀ vs r, memoSpec tab vs = some r → runSpec P rC f vs = some r
  | [], _, vs, r, h => by cases h
  | x :: t, hx, vs, r, h => by
    simp only [memoSpec] at h
    split at h
    · rename_i hsm
      simp only [Option.some.injEq] at h; subst h
      have he := sames_eq _ _ hsm
      have h1 := hx x (List.mem_cons_self ..)
      unfold runSpec at h1 ⊢
      rw [← he, lits_lits] at h1
      exact h1
    · exact memo_run (fun y hy => hx y (List.mem_cons_of_mem _ hy)) vs r h
theorem memo_ok {P : Program} {GB : Base → Prop} (hG : GOk GB) (hm : P.follows .mixedOrders = true) {T : Ctab} (hT : CtabOk P GB T) {f : FuncId} {tab : List (List SV × SV)} {n m : Nat} (h : ∀ x ∈ tab, runSpec P (runC P (autoC P T n) T m) f x.1 = some ([], x.2)) : (pureC (memoSpec tab)).ok P GB f :=
  pureC_sub (memo_run h) (runSpec_ok hG (symC_ok fixOk_lit (autoC_ok hG hm hT n) hT hm m noHints) (runC_sym m) f)
end Go.Sx
