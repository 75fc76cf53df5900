import Derived.Test.YtmeebemkoakkmaaGreatDoorSxAB
set_option linter.all false
noncomputable section
namespace Go.Sx
open Go
section
variable {P : Program}

theorem hsets_get {s : List (Nat × Option Blk)} (h : Hp) (j : Nat) : (∃ b, (j, b) ∈ s ∧ hget (hsets h s) j = b) ∨ ((∀ b, (j, b) ∉ s) ∧ hget (hsets h s) j = hget h j) := by
  induction s generalizing h with
  | nil => exact .inr ⟨fun b hb => (by cases hb), rfl⟩
  | cons x r ih =>
    obtain ⟨i, c⟩ := x
    rcases ih (hset h i c) with ⟨b, h1, h2⟩ | ⟨h1, h2⟩
    · exact .inl ⟨b, List.mem_cons_of_mem _ h1, h2⟩
    · by_cases hi : i = j
      · subst hi
        refine .inl ⟨c, List.mem_cons_self .., ?_⟩
        rw [hsets, h2, hget_hset, if_pos rfl]
      · refine .inr ⟨fun b hb => ?_, ?_⟩
        · rcases List.mem_cons.1 hb with e | hb
          · cases e; exact hi rfl
          · exact h1 b hb
        · rw [hsets, h2, hget_hset, if_neg hi]

theorem restrict_rep {B : Base} {η : Env} {hp : Hp} {w : World} (h : HRep B η hp w) (R : List Nat) :
    HRep ⟨w, fun a => ∃ i b, hget (hpOf (hget hp) R) i = some b ∧ b.rw = true ∧ a = η.adr i⟩ η (hpOf (hget hp) R) w := by
  have key : ∀ i b, hget (hpOf (hget hp) R) i = some b → hget hp i = some b := fun i b hg => by
    rw [hpOf_get] at hg
    split at hg
    · exact hg
    · cases hg
  exact ⟨fun i b hg => h.blk i b (key i b hg), fun i j b c h1 h2 => h.apart i j b c (key i b h1) (key j c h2), fun i b hg hrw => .inr ⟨i, b, hg, hrw, rfl⟩,
    (fun i r hg => by rw [hpOf_lget] at hg; cases hg), (fun i r hg => by rw [hpOf_lget] at hg; cases hg), (fun i j r s hg _ _ => by rw [hpOf_lget] at hg; cases hg),
    Nat.le_refl _, fun _ _ _ => rfl, rfl, rfl, rfl⟩
end
end Go.Sx
