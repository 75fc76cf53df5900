import Derived.Test.YtmeebemkoakkmaaGreatDoorSxQ
set_option linter.all false
/-
  A loop's head; code.
-/
noncomputable section
namespace Go.Sx
open Go

theorem blank_len : ∀ (S : List Nat) (l : List SV), (blank l S).length = l.length
  | [], _ => rfl
  | t :: r, l => by simp [blank, blank_len r]
theorem blank_get : ∀ (S : List Nat) (l : List SV) (t : Nat), t ∉ S → (blank l S)[t]? = l[t]?
  | [], _, _, _ => rfl
  | s :: r, l, t, h => by
    simp only [List.mem_cons, not_or] at h
    rw [blank, blank_get r _ t h.2, List.getElem?_set, if_neg (Ne.symm h.1)]
theorem setTm_len : ∀ (u : List (Nat × SV)) (l : List SV), (setTm l u).length = l.length
  | [], _ => rfl
  | (t, v) :: r, l => by simp [setTm, setTm_len r]
theorem setTm_get : ∀ (u : List (Nat × SV)) (l : List SV) (t : Nat) (v : SV), (setTm l u)[t]? = some v → (t, v) ∈ u ∨ (t ∉ u.map (·.1) ∧ l[t]? = some v)
  | [], _, _, _, h => .inr ⟨by simp, h⟩
  | (s, x) :: r, l, t, v, h => by
    rcases setTm_get r _ t v h with h | ⟨h1, h2⟩
    · exact .inl (List.mem_cons_of_mem _ h)
    · rw [List.getElem?_set] at h2
      by_cases hs : s = t
      · subst hs
        simp only [if_true] at h2
        split at h2
        · simp only [Option.some.injEq] at h2; subst h2; exact .inl (List.mem_cons_self ..)
        · cases h2
      · rw [if_neg hs] at h2
        refine .inr ⟨?_, h2⟩
        simp only [List.map_cons, List.mem_cons, not_or]
        exact ⟨Ne.symm hs, h1⟩
theorem setHp_get : ∀ (u : List (Nat × Blk)) (h : Hp) (i : Nat) (b : Blk), hget (setHp h u) i = some b → (i, b) ∈ u ∨ (i ∉ u.map (·.1) ∧ hget h i = some b)
  | [], _, _, _, h => .inr ⟨by simp, h⟩
  | (s, x) :: r, h, i, b, hg => by
    rcases setHp_get r _ i b hg with h1 | ⟨h1, h2⟩
    · exact .inl (List.mem_cons_of_mem _ h1)
    · rw [hget_hset] at h2
      by_cases hs : s = i
      · subst hs; simp only [if_true, Option.some.injEq] at h2; subst h2; exact .inl (List.mem_cons_self ..)
      · rw [if_neg hs] at h2
        refine .inr ⟨?_, h2⟩
        simp only [List.map_cons, List.mem_cons, not_or]
        exact ⟨Ne.symm hs, h1⟩
theorem setHp_lget : ∀ (u : List (Nat × Blk)) (h : Hp) (i : Nat) (r : LRec), lget (setHp h u) i = some r → lget h i = some r
  | [], _, _, _, h => h
  | (j, b) :: u, h, i, r, hg => (lget_of_hset (setHp_lget u _ i r hg)).1
theorem slotsOk_mem {m : Nat → Nat} {tm : List SV} : ∀ {l : List (Nat × SV)}, slotsOk m tm l → ∀ t v, (t, v) ∈ l → ∃ u, tm[t]? = some u ∧ simV u (v.ren m)
  | (s, x) :: r, h, t, v, hm => by
    rcases List.mem_cons.1 hm with e | hm
    · cases e
      have h1 := h.1
      split at h1
      · rename_i u hu; exact ⟨u, hu, h1⟩
      · exact h1.elim
    · exact slotsOk_mem h.2 t v hm
theorem blksOk_mem {m : Nat → Nat} {hp : Hp} : ∀ {l : List (Nat × Blk)}, blksOk m hp l → ∀ i b, (i, b) ∈ l → ∃ a, hget hp (m i) = some a ∧ simB a (b.ren m)
  | (s, x) :: r, h, i, b, hm => by
    rcases List.mem_cons.1 hm with e | hm
    · cases e
      have h1 := h.1
      split at h1
      · rename_i a ha; exact ⟨a, ha, h1⟩
      · exact h1.elim
    · exact blksOk_mem h.2 i b hm
theorem others_get {ids : List Nat} {hp hp' : Hp} : ∀ {h : Hp} {i : Nat} {b : Blk}, others ids hp h = others ids hp' h → hget h i = some b → i ∉ ids → hget hp i = hget hp' i
  | (j, c) :: r, i, b, he, hg, hi => by
    simp only [others, List.cons.injEq] at he
    simp only [hget] at hg
    by_cases hj : j = i
    · subst hj
      have : ids.contains j = false := by simpa using hi
      rw [this] at he
      simpa using he.1
    · rw [if_neg hj] at hg
      exact others_get he.2 hg hi
theorem liveKeys_mem : ∀ {h : Hp} {i : Nat} {b : Blk}, hget h i = some b → i ∈ liveKeys h
  | (j, c) :: r, i, b, hg => by
    simp only [hget] at hg
    by_cases hj : j = i
    · subst hj
      simp only [if_true] at hg
      cases c <;> simp only [Ent.toO, reduceCtorEq] at hg
      simp [liveKeys]
    · rw [if_neg hj] at hg
      have := liveKeys_mem hg
      cases c <;> simp only [liveKeys]
      · exact this
      · exact List.mem_cons_of_mem _ this
      · exact this
theorem nodupB_map {f : Nat → Nat} : ∀ {l : List Nat}, nodupB (l.map f) = true → ∀ i ∈ l, ∀ j ∈ l, i ≠ j → f i ≠ f j
  | x :: r, h, i, hi, j, hj, hij => by
    simp only [List.map_cons, nodupB, Bool.and_eq_true, Bool.not_eq_true', ← Bool.not_eq_true, List.contains_iff_mem] at h
    rcases List.mem_cons.1 hi with e1 | h1 <;> rcases List.mem_cons.1 hj with e2 | h2
    · exact absurd (e1.trans e2.symm) hij
    · exact fun e => h.1 (by rw [← e1, e]; exact List.mem_map_of_mem h2)
    · exact fun e => h.1 (by rw [← e2, ← e]; exact List.mem_map_of_mem h1)
    · exact nodupB_map h.2 i h1 j h2 hij
theorem renOf_elder {nx : Nat} : ∀ {m : Ren}, m.all (fun x => decide (nx ≤ x.1) || x.1 == x.2) = true → ∀ j, j < nx → renOf m j = j
  | [], _, _, _ => rfl
  | (a, b) :: r, h, j, hj => by
    simp only [List.all_cons, Bool.and_eq_true, Bool.or_eq_true, decide_eq_true_eq, beq_iff_eq] at h
    simp only [renOf]
    split
    · rename_i e; subst e
      rcases h.1 with h1 | h1
      · omega
      · exact h1.symm
    · exact renOf_elder h.2 j hj

theorem head_rep {B : Base} {η' : Env} {σ σ' : St} {a : Act} {w : World} {junk : List Nat} {slots : List (Nat × SV)} {blks : List (Nat × Blk)} (hR : Rep B η' σ' a w) (hf : σ.fresh (ge σ.nx) = true) (he : endsIn junk σ σ' slots blks) :
    ∃ η2, Rep B η2 (headS junk σ slots blks) a w ∧ η'.like η2 (ge σ.nx) := by
  obtain ⟨hb, ho, hls, hdf, hr, hs, hk⟩ := he
  simp only [renB, Bool.and_eq_true, Bool.not_eq_true'] at hr
  obtain ⟨⟨⟨hr1, hr2⟩, hr3⟩, hr4⟩ := hr
  obtain ⟨hf1, hf2, hf3⟩ := fresh_tm hf
  generalize hm : renOf (pairs σ' slots blks) = m at *
  have hel : ∀ j, j < σ.nx → m j = j := fun j hj => by rw [← hm]; exact renOf_elder hr1 j hj
  have hlen : σ'.tm.length = σ.tm.length := by have := congrArg List.length hb; rwa [blank_len, blank_len] at this
  have hη2 : ∃ η2 : Env, η2 = ⟨fun j => η'.adr (m j), fun j => η'.cap (m j), fun j => if σ.nx ≤ j ∧ j < σ.nx + σ.tm.length then a.tmps.getD (j - σ.nx) undef else η'.jk j⟩ := ⟨_, rfl⟩
  obtain ⟨η2, hη2⟩ := hη2
  have hlike : η'.like η2 (ge σ.nx) := fun j hj => by
    simp only [ge, decide_eq_false_iff_not] at hj
    rw [hη2]
    refine ⟨by simp [hel j (by omega)], by simp [hel j (by omega)], ?_⟩
    simp only
    rw [if_neg (by omega)]
  have hvia : (η'.via m).like η2 (mid σ.nx (σ.nx + σ.tm.length)) := fun j hj => by
    rw [hη2]
    refine ⟨rfl, rfl, ?_⟩
    simp only [Env.via]
    simp only [mid, Bool.and_eq_false_iff, decide_eq_false_iff_not] at hj
    rw [if_neg (by omega)]
  have hloop : ∀ i r, lget (setHp σ.hp blks) i = some r → lget σ.hp i = some r ∧ lget σ'.hp i = some r ∧ i < σ.nx := fun i r hg => by
    have h1 := setHp_lget _ _ i r hg
    refine ⟨h1, lsame_get hls h1, ?_⟩
    have := (Hp.fresh_lget hf2 h1).1
    simpa [ge] using this
  refine ⟨η2, ⟨?_, fun t v ht => ?_, ?_, ?_⟩, hlike⟩
  · simp only [headS]; rw [setTm_len, setTm_len, hR.len, hlen]
  · simp only [headS] at ht
    rcases setTm_get _ _ t v ht with h | ⟨h1, h2⟩
    · obtain ⟨u, hu, hsim⟩ := slotsOk_mem hs t v h
      rw [hR.tm t u hu, simV_den hsim, ← SV.den_via, SV.den_like hvia v (mens_mem hr3 (List.mem_map.2 ⟨(t, v), h, rfl⟩))]
    · rcases setTm_get _ _ t v h2 with h | ⟨h3, h4⟩
      · obtain ⟨t', ht', e⟩ := List.mem_map.1 h
        simp only [Prod.mk.injEq] at e; obtain ⟨rfl, rfl⟩ := e
        have hlt : t' < σ.tm.length := by
          have := (List.getElem?_eq_some_iff.1 h2).1
          rw [setTm_len] at this; exact this
        have hlt' : t' < a.tmps.size := by rw [hR.len, hlen]; exact hlt
        rw [hη2]
        simp only [SV.den]
        rw [if_pos (by omega)]
        have : σ.nx + t' - σ.nx = t' := by omega
        rw [this]
        simp [Array.getD_eq_getD_getElem?, hlt']
      · have hnt : t ∉ junk ++ slots.map (·.1) := by
          rw [List.mem_append, not_or]
          refine ⟨fun h => h3 ?_, h1⟩
          exact List.mem_map.2 ⟨(t, SV.jk (σ.nx + t)), List.mem_map.2 ⟨t, h, rfl⟩, rfl⟩
        have e1 := blank_get _ σ'.tm t hnt
        have e2 := blank_get _ σ.tm t hnt
        rw [hb, e2, h4] at e1
        rw [hR.tm t v e1.symm, SV.den_like hlike v (mens_mem hf1 (List.mem_of_getElem? h4))]
  · have hreal : ∀ i b, hget (setHp σ.hp blks) i = some b → ∃ b', hget σ'.hp (m i) = some b' ∧ (b.rw = true → b'.rw = true) := fun i b hg => by
      rcases setHp_get _ _ i b hg with h | ⟨h1, h2⟩
      · obtain ⟨b', hb', hsim⟩ := blksOk_mem hk i b h
        exact ⟨b', hb', hsim.1⟩
      · have := others_get ho h2 h1
        rw [hel i (by have := (Hp.fresh_get hf2 h2).1; simpa [ge] using this), this, h2]
        exact ⟨b, rfl, id⟩
    have hadr : ∀ i, η2.adr i = η'.adr (m i) := fun i => by rw [hη2]
    have hcap : ∀ i, η2.cap i = η'.cap (m i) := fun i => by rw [hη2]
    refine ⟨fun i b hg => ?_, fun i j b c h1 h2 hij => ?_, fun i b hg hrw => ?_, fun i r hg => ?_, fun i r hg => ?_, fun i j r s h1 h2 hij => ?_, hR.hp.size, hR.hp.kept, hR.hp.os, hR.hp.tape, hR.hp.output⟩
    · rcases setHp_get _ _ i b hg with h | ⟨h1, h2⟩
      · obtain ⟨b', hb', hsim1, hsim2, hsim3⟩ := blksOk_mem hk i b h
        obtain ⟨hkc, c, T, fr, hc, hfr, hrep⟩ := hR.hp.blk (m i) b' hb'
        rw [Blk.rep, hadr, hcap]
        refine ⟨fun mm hmm => ?_, c, T, fr, hc, fun hrw => hfr (hsim1 hrw), ?_⟩
        · rcases hsim2 with h | h
          · simp only [Blk.ren] at h; rw [h] at hmm; cases hmm
          · simp only [Blk.ren] at h; exact hkc mm (h ▸ hmm)
        · have h1 := SO.rep_via (m := m) (simO_rep hsim3 hrep)
          refine SO.rep_like hvia ?_ h1
          have := List.all_eq_true.1 hr4 (i, b) h
          simpa using this
      · have hh := others_get ho h2 h1
        rw [h2] at hh
        have hin : i < σ.nx := by have := (Hp.fresh_get hf2 h2).1; simpa [ge] using this
        obtain ⟨hkc, c, T, fr, hc, hfr, hrep⟩ := hR.hp.blk i b hh
        rw [Blk.rep, hadr, hcap, hel i hin]
        exact ⟨hkc, c, T, fr, hc, hfr, SO.rep_like hlike (Hp.fresh_get hf2 h2).2 hrep⟩
    · rw [hadr, hadr]
      obtain ⟨b1, hb1, _⟩ := hreal i b h1
      obtain ⟨b2, hb2, _⟩ := hreal j c h2
      exact hR.hp.apart (m i) (m j) b1 b2 hb1 hb2 (by rw [← hm] at *; exact nodupB_map hr2 i (liveKeys_mem h1) j (liveKeys_mem h2) hij)
    · rw [hadr]
      obtain ⟨b1, hb1, hw1⟩ := hreal i b hg
      exact hR.hp.mine (m i) b1 hb1 (hw1 hrw)
    · obtain ⟨h1, h2, h3⟩ := hloop i r hg
      exact LRec.rep_like hlike (Hp.fresh_lget hf2 h1).1 (Hp.fresh_lget hf2 h1).2 (hR.hp.loops i r h2)
    · obtain ⟨h1, h2, h3⟩ := hloop i r hg
      rw [hadr, hcap, hel i h3]; exact hR.hp.lmine i r h2
    · obtain ⟨h1, h2, h3⟩ := hloop i r h1
      obtain ⟨h4, h5, h6⟩ := hloop j s ‹_›
      rw [hadr, hcap, hadr, hcap, hel i h3, hel j h6]; exact hR.hp.lapart i j r s h2 h5 hij
  · rw [hR.df, hdf]
    exact (dmens_like hlike σ.df hf3).symm
end Go.Sx
