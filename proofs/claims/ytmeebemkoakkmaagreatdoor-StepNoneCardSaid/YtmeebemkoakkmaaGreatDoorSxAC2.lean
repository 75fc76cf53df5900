import Derived.Test.YtmeebemkoakkmaaGreatDoorSxAC
set_option linter.all false
noncomputable section
namespace Go.Sx
open Go
theorem HRep.env {B : Base} {η η' : Env} {hp : Hp} {w : World} {p : Nat → Bool} (h : HRep B η hp w) (hl : η.like η' p) (hf : Hp.fresh p hp = true) : HRep B η' hp w := by
  have eb : ∀ i b, hget hp i = some b → η'.adr i = η.adr i ∧ η'.cap i = η.cap i := fun i b hg => ⟨(hl i (Hp.fresh_get hf hg).1).1, (hl i (Hp.fresh_get hf hg).1).2.1⟩
  have el : ∀ i r, lget hp i = some r → η'.adr i = η.adr i ∧ η'.cap i = η.cap i := fun i r hg => ⟨(hl i (Hp.fresh_lget hf hg).1).1, (hl i (Hp.fresh_lget hf hg).1).2.1⟩
  refine ⟨fun i b hg => ?_, fun i j b c h1 h2 hij => ?_, fun i b hg hrw => ?_, fun i r hg => ?_, fun i r hg => ?_, fun i j r s h1 h2 hij => ?_, h.size, h.kept, h.os, h.tape, h.output⟩
  · obtain ⟨hkc, c, T, fr, hc, hfr, hr⟩ := h.blk i b hg
    rw [Blk.rep, (eb i b hg).1, (eb i b hg).2]
    exact ⟨hkc, c, T, fr, hc, hfr, SO.rep_like hl (Hp.fresh_get hf hg).2 hr⟩
  · rw [(eb i b h1).1, (eb j c h2).1]; exact h.apart i j b c h1 h2 hij
  · rw [(eb i b hg).1]; exact h.mine i b hg hrw
  · exact LRec.rep_like hl (Hp.fresh_lget hf hg).1 (Hp.fresh_lget hf hg).2 (h.loops i r hg)
  · rw [(el i r hg).1, (el i r hg).2]; exact h.lmine i r hg
  · rw [(el i r h1).1, (el i r h1).2, (el j s h2).1, (el j s h2).2]; exact h.lapart i j r s h1 h2 hij
theorem hget_mem : ∀ {hp : Hp} {i : Nat} {b : Blk}, (i, Ent.blk b) ∈ hp → (hp.map (·.1)).Nodup → hget hp i = some b
  | (j, e) :: t, i, b, hm, hn => by
    simp only [List.map_cons, List.nodup_cons] at hn
    rcases List.mem_cons.1 hm with h | h
    · cases h; simp [hget, Ent.toO]
    · have : j ≠ i := fun h' => hn.1 (by rw [h']; exact List.mem_map.2 ⟨_, h, rfl⟩)
      simp only [hget]; rw [if_neg this]; exact hget_mem h hn.2
theorem hpOf_keys {g : Nat → Option Blk} : ∀ {l : List Nat} {i : Nat} {b : Blk}, hget (hpOf g l) i = some b → i ∈ (hpOf g l).map (·.1)
  | [], i, b, h => by cases h
  | j :: l, i, b, h => by
    simp only [hpOf] at h ⊢
    split at h
    · simp only [hget] at h
      split at h
      · rename_i e; rw [← e]; exact List.mem_cons_self ..
      · exact List.mem_cons_of_mem _ (hpOf_keys h)
    · exact hpOf_keys h
/-- a callee that was handed some blocks of its caller's: what stands behind it -/
theorem frame_rep {B : Base} {η η' : Env} {hp hp2 : Hp} {w w' : World} {key : Nat} {p : Nat → Bool} {R : List Nat} {l : List (Nat × Option Blk)} (hR : HRep B η hp w) (hf : Hp.fresh p hp = true) (hp0 : ∀ j, rng key j = true → p j = true)
    (hh : HRep ⟨w, fun a => ∃ i b, hget (hpOf (hget hp) R) i = some b ∧ b.rw = true ∧ a = η.adr i⟩ η' hp2 w') (hlk : η.like η' (ge key)) (hfw : Hp.fresh (ge (key + 1048576)) hp2 = true)
    (P1 : ∀ i b, hget (hsets hp l) i = some b → hget hp2 i = some b ∨ (hget hp i = some b ∧ hget (hpOf (hget hp) R) i = none))
    (P2 : ∀ i b, hget hp2 i = some b → (key ≤ i → b.rw = true ∧ i < key + 1048576) ∧ (i < key → ∃ a, hget (hpOf (hget hp) R) i = some a)) :
    ∃ η2 : Env, HRep B η2 (hsets hp l) w' ∧ η.like η2 p ∧ η'.like η2 (ge (key + 1048576)) := by
  obtain ⟨η2, hη2⟩ : ∃ η2 : Env, η2 = ⟨fun j => if rng key j then η'.adr j else η.adr j, fun j => if rng key j then η'.cap j else η.cap j, fun j => if rng key j then η'.jk j else η.jk j⟩ := ⟨_, rfl⟩
  have hl2 : η.like η2 p := fun j hj => by
    have : rng key j = false := by
      cases hr : rng key j with
      | false => rfl
      | true => rw [hp0 j hr] at hj; cases hj
    rw [hη2]; simp [this]
  have h12 : η'.like η2 (ge (key + 1048576)) := fun j hj => by
    simp only [ge, decide_eq_false_iff_not] at hj
    rw [hη2]
    cases hr : rng key j with
    | true => simp [hr]
    | false =>
      have : ge key j = false := by simp only [rng, Bool.and_eq_false_iff, decide_eq_false_iff_not] at hr; simp only [ge, decide_eq_false_iff_not]; omega
      have := hlk j this
      simp [hr, this.1, this.2.1, this.2.2]
  have hh2 := hh.env h12 hfw
  have hkp : ∀ i c, hget (hpOf (hget hp) R) i = some c → hget hp i = some c := fun i c h => by
    rw [hpOf_get] at h
    split at h
    · exact h
    · cases h
  have hL : ∀ k, (∃ i b, hget (hpOf (hget hp) R) i = some b ∧ b.rw = true ∧ k = η.adr i) → ∃ i b, hget hp i = some b ∧ b.rw = true ∧ k = η.adr i := fun k ⟨i, b, h1, h2, h3⟩ => ⟨i, b, hkp i b h1, h2, h3⟩
  have henv : ∀ i b, hget hp i = some b → η2.adr i = η.adr i ∧ η2.cap i = η.cap i := fun i b hg => ⟨(hl2 i (Hp.fresh_get hf hg).1).1, (hl2 i (Hp.fresh_get hf hg).1).2.1⟩
  have hlenv : ∀ i r, lget hp i = some r → η2.adr i = η.adr i ∧ η2.cap i = η.cap i := fun i r hg => ⟨(hl2 i (Hp.fresh_lget hf hg).1).1, (hl2 i (Hp.fresh_lget hf hg).1).2.1⟩
  -- an elder block of the caller's, not reached: it lies as it lay
  have hold : ∀ i b, hget hp i = some b → hget (hpOf (hget hp) R) i = none → w'.heap[η.adr i]? = w.heap[η.adr i]? := fun i b hg hn0 => by
    refine hh.kept _ (hR.lt hg) ?_
    rintro ⟨j, c, h3, h4, h5⟩
    refine hR.apart i j b c hg (hkp j c h3) (fun e => ?_) h5
    rw [e, h3] at hn0; cases hn0
  -- what is no block lies as it lay
  have holdl : ∀ k o, w.heap[k]? = some o → (∀ c T fr, o ≠ Obj.cells c T fr) → w'.heap[k]? = some o := fun k o ho hne => by
    have hlt : k < w.heap.size := by
      rcases Nat.lt_or_ge k w.heap.size with h | h
      · exact h
      · rw [Array.getElem?_eq_none h] at ho; cases ho
    refine (hh.kept _ hlt ?_).trans ho
    rintro ⟨j, c, h3, h4, h5⟩
    obtain ⟨_, c', T, fr, hc, _⟩ := hR.blk j c (hkp j c h3)
    rw [← h5, ho] at hc
    simp only [Option.some.injEq] at hc
    exact hne _ _ _ hc
  -- the places of what the callee left
  have hplace : ∀ i b, hget hp2 i = some b → (∃ c, hget hp i = some c ∧ hget (hpOf (hget hp) R) i = some c ∧ i < key) ∨ (w.heap.size ≤ η2.adr i) ∨ (∃ j c, hget (hpOf (hget hp) R) j = some c ∧ c.rw = true ∧ η2.adr i = η.adr j) := fun i b hg => by
    rcases Nat.lt_or_ge i key with hk | hk
    · obtain ⟨a, ha⟩ := (P2 i b hg).2 hk
      exact .inl ⟨a, hkp i a ha, ha, hk⟩
    · rcases hh2.mine i b hg ((P2 i b hg).1 hk).1 with h | h
      · exact .inr (.inl h)
      · exact .inr (.inr h)
  -- a block of the callee's and one that it never saw
  have hmix : ∀ i j b c, hget hp2 i = some b → hget hp j = some c → hget (hpOf (hget hp) R) j = none → i ≠ j → η2.adr i ≠ η2.adr j := fun i j b c hi hj hnj hij he => by
    rw [(henv j c hj).1] at he
    rcases hplace i b hi with ⟨d, h1, h2, _⟩ | h | ⟨k, d, h1, _, h3⟩
    · rw [(henv i d h1).1] at he; exact hR.apart i j d c h1 hj hij he
    · have := hR.lt hj; omega
    · rw [h3] at he
      exact hR.apart k j d c (hkp k d h1) hj (fun e => by rw [e, hnj] at h1; cases h1) he
  refine ⟨η2, ⟨fun i b hg => ?_, fun i j b c h1 h2 hij => ?_, fun i b hg hrw => ?_, fun i r hg => ?_, fun i r hg => ?_, fun i j r s h1 h2 hij => ?_, Nat.le_trans hR.size hh.size, fun j hj hlj => ?_, hh.os.trans hR.os, hh.tape.trans hR.tape, hh.output.trans hR.output⟩, hl2, h12⟩
  · rcases P1 i b hg with h | ⟨h, hn⟩
    · exact hh2.blk i b h
    · obtain ⟨hkc, c, T, fr, hc, hfr, hr⟩ := hR.blk i b h
      rw [Blk.rep, (henv i b h).1, (henv i b h).2]
      exact ⟨hkc, c, T, fr, by rw [hold i b h hn]; exact hc, hfr, SO.rep_like hl2 (Hp.fresh_get hf h).2 hr⟩
  · rcases P1 i b h1 with h1 | ⟨h1, hn1⟩ <;> rcases P1 j c h2 with h2 | ⟨h2, hn2⟩
    · exact hh2.apart i j b c h1 h2 hij
    · exact hmix i j b c h1 h2 hn2 hij
    · exact (hmix j i c b h2 h1 hn1 (Ne.symm hij)).symm
    · rw [(henv i b h1).1, (henv j c h2).1]; exact hR.apart i j b c h1 h2 hij
  · rcases P1 i b hg with h | ⟨h, hn⟩
    · rcases hh2.mine i b h hrw with h3 | h3
      · exact .inl (Nat.le_trans hR.size h3)
      · obtain ⟨k, d, h4, h5, h6⟩ := hL _ h3
        rw [h6]; exact hR.mine k d h4 h5
    · rw [(henv i b h).1]; exact hR.mine i b h hrw
  · rw [lget_hsets] at hg
    split at hg
    · cases hg
    · have hlr := hR.loops i r hg
      have hrl : r.rep η i w' := by
        unfold LRec.rep at hlr ⊢
        split at hlr
        · rename_i hm; rw [if_pos hm]; exact ⟨hlr.1, holdl _ _ hlr.2 (fun _ _ _ h => by cases h)⟩
        · rename_i hm; rw [if_neg hm]
          obtain ⟨⟨fn, h4⟩, h5⟩ := hlr
          exact ⟨⟨fn, holdl _ _ h4 (fun _ _ _ h => by cases h)⟩, holdl _ _ h5 (fun _ _ _ h => by cases h)⟩
      exact LRec.rep_like hl2 (Hp.fresh_lget hf hg).1 (Hp.fresh_lget hf hg).2 hrl
  · rw [lget_hsets] at hg
    split at hg
    · cases hg
    · rw [(hlenv i r hg).1, (hlenv i r hg).2]; exact hR.lmine i r hg
  · rw [lget_hsets] at h1 h2
    split at h1
    · cases h1
    · split at h2
      · cases h2
      · rw [(hlenv i r h1).1, (hlenv i r h1).2, (hlenv j s h2).1, (hlenv j s h2).2]; exact hR.lapart i j r s h1 h2 hij
  · refine (hh.kept j (Nat.lt_of_lt_of_le hj hR.size) ?_).trans (hR.kept j hj hlj)
    intro hLj
    obtain ⟨k, d, h4, h5, h6⟩ := hL _ hLj
    rcases hR.mine k d h4 h5 with h7 | h7
    · omega
    · rw [← h6] at h7; exact hlj h7
end Go.Sx
