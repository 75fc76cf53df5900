import Derived.Test.YtmeebemkoakkmaaGreatDoorSxAA
set_option linter.all false
/-
  Contracts made by running the callee.
-/
noncomputable section
namespace Go.Sx
open Go

theorem hpOf_get (g : Nat → Option Blk) : ∀ (l : List Nat) (i : Nat), hget (hpOf g l) i = if l.contains i then g i else none
  | [], i => rfl
  | j :: l, i => by
    simp only [hpOf]
    split
    · rename_i b hb
      simp only [hget]
      by_cases hj : j = i
      · subst hj; simp [Ent.toO, hb]
      · rw [if_neg hj, hpOf_get g l i]
        have hji : ¬ i = j := Ne.symm hj
        simp [hji]
    · rename_i hb
      rw [hpOf_get g l i, List.contains_cons]
      by_cases hj : j = i
      · subst hj; simp [hb]
      · have : (i == j) = false := by simpa using Ne.symm hj
        simp [this]
theorem hpOf_lget (g : Nat → Option Blk) : ∀ (l : List Nat) (i : Nat), lget (hpOf g l) i = none
  | [], i => rfl
  | j :: l, i => by
    simp only [hpOf]
    split
    · simp only [lget]
      split
      · rfl
      · exact hpOf_lget g l i
    · exact hpOf_lget g l i

/-- what setsIn tells: no record; what is set stands so behind; what is not set and stands behind, stood so; new ones may be written and are this call's -/
theorem setsIn_spec {g : Nat → Option Blk} {key : Nat} : ∀ {hp : Hp} {l : List (Nat × Option Blk)}, setsIn g key hp = some l → (hp.map (·.1)).Nodup →
    (∀ i, lget hp i = none) ∧ (∀ i b, (i, b) ∈ l → hget hp i = b ∧ i ∈ hp.map (·.1)) ∧ (∀ i b, hget hp i = some b → (i, some b) ∈ l ∨ g i = some b) ∧ (∀ i b, hget hp i = some b → key ≤ i → b.rw = true ∧ i < key + 1048576)
  | [], l, h, _ => by
    simp only [setsIn, Option.some.injEq] at h; subst h
    exact ⟨fun _ => rfl, (fun i b hm => by cases hm), (fun i b hg => by cases hg), (fun i b hg => by cases hg)⟩
  | (j, .loop r) :: t, l, h, _ => by simp [setsIn] at h
  | (j, .dead) :: t, l, h, hn => by
    simp only [List.map_cons, List.nodup_cons] at hn
    simp only [setsIn, Option.map_eq_some_iff] at h
    obtain ⟨l', hl, rfl⟩ := h
    obtain ⟨h1, h2, h3, h4⟩ := setsIn_spec hl hn.2
    refine ⟨fun i => ?_, fun i b hm => ?_, fun i b hg => ?_, fun i b hg hk => ?_⟩
    · simp only [lget]; split
      · rfl
      · exact h1 i
    · rcases List.mem_cons.1 hm with e | hm
      · cases e; simp [hget, Ent.toO]
      · obtain ⟨e1, e2⟩ := h2 i b hm
        have : j ≠ i := fun e => hn.1 (e ▸ e2)
        simp only [hget]; rw [if_neg this]; exact ⟨e1, List.mem_cons_of_mem _ e2⟩
    · simp only [hget] at hg
      split at hg
      · cases hg
      · rcases h3 i b hg with h | h
        · exact .inl (List.mem_cons_of_mem _ h)
        · exact .inr h
    · simp only [hget] at hg
      split at hg
      · cases hg
      · exact h4 i b hg hk
  | (j, .blk c) :: t, l, h, hn => by
    simp only [List.map_cons, List.nodup_cons] at hn
    have key' : ∃ l', setsIn g key t = some l' ∧ ((l = l' ∧ g j = some c ∧ ¬ key ≤ j) ∨ (l = (j, some c) :: l' ∧ (key ≤ j → c.rw = true ∧ j < key + 1048576))) := by
      simp only [setsIn] at h
      split at h
      · rename_i hk
        split at h
        · rename_i hc
          simp only [Bool.and_eq_true, decide_eq_true_eq] at hc
          simp only [Option.map_eq_some_iff] at h
          obtain ⟨l', hl, rfl⟩ := h
          exact ⟨l', hl, .inr ⟨rfl, fun _ => hc⟩⟩
        · cases h
      · rename_i hk
        split at h
        · rename_i a ha
          split at h
          · rename_i hs
            exact ⟨l, h, .inl ⟨rfl, by rw [ha, Blk.same_eq hs], hk⟩⟩
          · simp only [Option.map_eq_some_iff] at h
            obtain ⟨l', hl, rfl⟩ := h
            exact ⟨l', hl, .inr ⟨rfl, fun hk' => absurd hk' hk⟩⟩
        · cases h
    obtain ⟨l', hl, hcase⟩ := key'
    obtain ⟨h1, h2, h3, h4⟩ := setsIn_spec hl hn.2
    refine ⟨fun i => ?_, fun i b hm => ?_, fun i b hg => ?_, fun i b hg hk => ?_⟩
    · simp only [lget]; split
      · rfl
      · exact h1 i
    · have old : (i, b) ∈ l' → hget ((j, .blk c) :: t) i = b ∧ i ∈ ((j, Ent.blk c) :: t).map (·.1) := fun hm => by
        obtain ⟨e1, e2⟩ := h2 i b hm
        have : j ≠ i := fun e => hn.1 (e ▸ e2)
        simp only [hget]; rw [if_neg this]; exact ⟨e1, List.mem_cons_of_mem _ e2⟩
      rcases hcase with ⟨rfl, _⟩ | ⟨rfl, _⟩
      · exact old hm
      · rcases List.mem_cons.1 hm with e | hm
        · cases e; simp [hget, Ent.toO]
        · exact old hm
    · simp only [hget] at hg
      split at hg
      · rename_i e; subst e
        simp only [Ent.toO, Option.some.injEq] at hg; subst hg
        rcases hcase with ⟨rfl, hgj, _⟩ | ⟨rfl, _⟩
        · exact .inr hgj
        · exact .inl (List.mem_cons_self ..)
      · rcases h3 i b hg with hx | hx
        · rcases hcase with ⟨rfl, _⟩ | ⟨rfl, _⟩
          · exact .inl hx
          · exact .inl (List.mem_cons_of_mem _ hx)
        · exact .inr hx
    · simp only [hget] at hg
      split at hg
      · rename_i e; subst e
        simp only [Ent.toO, Option.some.injEq] at hg; subst hg
        rcases hcase with ⟨_, _, hnk⟩ | ⟨_, hr⟩
        · exact absurd hk hnk
        · exact hr hk
      · exact h4 i b hg hk
theorem setsIn_key {g : Nat → Option Blk} {key : Nat} : ∀ {hp : Hp} {l : List (Nat × Option Blk)}, setsIn g key hp = some l → ∀ i ∈ hp.map (·.1), (∃ b, (i, b) ∈ l) ∨ ∃ b, (i, Ent.blk b) ∈ hp ∧ g i = some b
  | [], l, h, i, hi => by cases hi
  | (j, .loop r) :: t, l, h, _, _ => by simp [setsIn] at h
  | (j, .dead) :: t, l, h, i, hi => by
    simp only [setsIn, Option.map_eq_some_iff] at h
    obtain ⟨l', hl, rfl⟩ := h
    rcases List.mem_cons.1 hi with e | hi
    · exact .inl ⟨none, by rw [e]; exact List.mem_cons_self ..⟩
    · rcases setsIn_key hl i hi with ⟨b, hb⟩ | ⟨b, h1, h2⟩
      · exact .inl ⟨b, List.mem_cons_of_mem _ hb⟩
      · exact .inr ⟨b, List.mem_cons_of_mem _ h1, h2⟩
  | (j, .blk c) :: t, l, h, i, hi => by
    have key' : ∃ l', setsIn g key t = some l' ∧ ((l = l' ∧ g j = some c) ∨ (l = (j, some c) :: l')) := by
      simp only [setsIn] at h
      split at h
      · split at h
        · simp only [Option.map_eq_some_iff] at h
          obtain ⟨l', hl, rfl⟩ := h
          exact ⟨l', hl, .inr rfl⟩
        · cases h
      · split at h
        · rename_i a ha
          split at h
          · rename_i hs
            exact ⟨l, h, .inl ⟨rfl, by rw [ha, Blk.same_eq hs]⟩⟩
          · simp only [Option.map_eq_some_iff] at h
            obtain ⟨l', hl, rfl⟩ := h
            exact ⟨l', hl, .inr rfl⟩
        · cases h
    obtain ⟨l', hl, hcase⟩ := key'
    rcases List.mem_cons.1 hi with e | hi
    · rcases hcase with ⟨rfl, hg⟩ | rfl
      · exact .inr ⟨c, by rw [e]; exact List.mem_cons_self .., by rw [e]; exact hg⟩
      · exact .inl ⟨some c, by rw [e]; exact List.mem_cons_self ..⟩
    · rcases setsIn_key hl i hi with ⟨b, hb⟩ | ⟨b, h1, h2⟩
      · rcases hcase with ⟨rfl, _⟩ | rfl
        · exact .inl ⟨b, hb⟩
        · exact .inl ⟨b, List.mem_cons_of_mem _ hb⟩
      · exact .inr ⟨b, List.mem_cons_of_mem _ h1, h2⟩
theorem nodup_of : ∀ {l : List Nat}, nodupB l = true → l.Nodup
  | [], _ => List.nodup_nil
  | x :: r, h => by
    simp only [nodupB, Bool.and_eq_true, Bool.not_eq_true', ← Bool.not_eq_true, List.contains_iff_mem] at h
    exact List.nodup_cons.2 ⟨h.1, nodup_of h.2⟩
theorem setsIn_old {g : Nat → Option Blk} {key : Nat} : ∀ {hp : Hp} {l : List (Nat × Option Blk)}, setsIn g key hp = some l → ∀ i b, hget hp i = some b → i < key → ∃ a, g i = some a
  | [], l, h, i, b, hg, _ => by cases hg
  | (j, .loop r) :: t, l, h, _, _, _, _ => by simp [setsIn] at h
  | (j, .dead) :: t, l, h, i, b, hg, hk => by
    simp only [setsIn, Option.map_eq_some_iff] at h
    obtain ⟨l', hl, rfl⟩ := h
    simp only [hget] at hg
    split at hg
    · cases hg
    · exact setsIn_old hl i b hg hk
  | (j, .blk c) :: t, l, h, i, b, hg, hk => by
    simp only [setsIn] at h
    simp only [hget] at hg
    split at hg
    · rename_i e; subst e
      rw [if_neg (by omega)] at h
      split at h
      · rename_i a ha; exact ⟨a, ha⟩
      · cases h
    · split at h
      · split at h
        · simp only [Option.map_eq_some_iff] at h
          obtain ⟨l', hl, rfl⟩ := h
          exact setsIn_old hl i b hg hk
        · cases h
      · split at h
        · split at h
          · exact setsIn_old h i b hg hk
          · simp only [Option.map_eq_some_iff] at h
            obtain ⟨l', hl, rfl⟩ := h
            exact setsIn_old hl i b hg hk
        · cases h
end Go.Sx
