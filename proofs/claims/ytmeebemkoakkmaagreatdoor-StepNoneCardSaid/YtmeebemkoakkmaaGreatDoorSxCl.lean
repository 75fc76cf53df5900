import Derived.Test.YtmeebemkoakkmaaGreatDoorSxMM
import Derived.Below
set_option linter.all false
/-
  A call of values that was run, as the walks say it.
-/
set_option linter.constructorNameAsVariable false
noncomputable section
namespace Go.Sx
open Go Go.RowKit
theorem hrep_nil (w : World) (η : Env) : HRep ⟨w, fun _ => False⟩ η [] w :=
  ⟨fun i b hg => (by cases hg), fun i j b c h1 _ _ => (by cases h1), fun i b hg => (by cases hg), fun i b hg => (by cases hg), fun i b hg => (by cases hg), fun i j r s hg _ _ => (by cases hg), Nat.le_refl _, fun _ _ _ => rfl, rfl, rfl, rfl⟩
theorem run_calls {P : Program} {GB : Base → Prop} {rC : RunC} {sC : Bool → Code → St → SK → Prop} (hC : CodeOk P GB sC) (hrel : RunRel rC sC) {f : FuncId} {vs : List SV} {v : SV} {hp : Hp} {nx : Nat}
    (hr : enterR P rC f vs [] 0 = some (.ret v, hp, nx)) (hv : v.men (fun _ => true) = false) (hm : mens (fun _ => true) vs = false) {W : World} (hB : GB ⟨W, fun _ => False⟩) (η : Env) :
    Calls P f (dens η vs).toArray W fun e W' => e = .returned (v.den η) ∧ Below W.heap.size W W' := by
  have hent := enterR_sym (P := P) (K := fun x _ _ => x = .ret v) hrel hr rfl
  obtain ⟨_, h2⟩ := enterC_ok hC hent hB (hrep_nil W η) rfl (mens_none hm _)
  refine Calls.mono (callsIn_wide.1 h2) fun r w' hpost => ?_
  obtain ⟨x, hp', nx', η', rfl, hrr, hh, hlk, hn, hff, hxm⟩ := hpost
  simp only [CExit.rel] at hrr
  refine ⟨?_, hh.os, hh.tape, hh.output, hh.size, fun j hj => hh.kept j hj (by simp)⟩
  rw [hrr, SV.den_like (p := fun _ => true) (fun j hj => by simp at hj) v hv]
/-- the value of a run, where it is `true` -/
theorem isTrue_run {x : Option (CExit × Hp × Nat)} (h : isTrue x = true) : ∃ hp nx, x = some (.ret (.lb true), hp, nx) := by
  unfold isTrue at h
  split at h
  · exact ⟨_, _, rfl⟩
  · cases h
end Go.Sx
