import Derived.Test.YtmeebemkoakkmaaGreatDoorSxAC2
set_option linter.all false
set_option linter.constructorNameAsVariable false
noncomputable section
namespace Go.Sx
open Go
section
variable {P : Program}

theorem autoRes_ok {GB : Base → Prop} (hG : GOk GB) {rC : RunC} {sC : Bool → Code → St → SK → Prop} (hC : CodeOk P GB sC) (hrel : RunRel rC sC) (f : FuncId) {B : Base} (hB : GB B) {η : Env} {hp : Hp} {w : World} {key : Nat} {vs : List SV} {e : Eff} {p : Nat → Bool}
    (hp0 : ∀ j, rng key j = true → p j = true) (hs : (autoRes P rC f key (hget hp) vs).sat e) (hR : HRep B η hp w) (hf : Hp.fresh p hp = true) (hm : mens p vs = false) :
    CallsX P f (dens η vs).toArray w fun r w' => ∃ η', r = .returned (e.val.den η') ∧ HRep B η' (hsets hp e.sets) w' ∧ η.like η' p := by
  unfold autoRes at hs
  simp only at hs
  generalize hRR : reach (hget hp) 12 (addN (idsL vs) []) = R at hs
  split at hs
  · exact hs.elim
  · rename_i hck
    simp only [Bool.or_eq_true, Bool.not_eq_true', not_or, Bool.not_eq_false, Bool.not_eq_true] at hck
    split at hs
    · rename_i v hp' nx' hrun
      split at hs
      · rename_i hnd
        split at hs
        · rename_i l hl
          obtain ⟨rfl, _⟩ := hs
          have hRc := restrict_rep hR R
          have hGc : GB ⟨w, fun a => ∃ i b, hget (hpOf (hget hp) R) i = some b ∧ b.rw = true ∧ a = η.adr i⟩ := hG B η hp w hB hR _ fun a ⟨i, b, h1, h2, h3⟩ => by
            rw [hpOf_get] at h1
            split at h1
            · exact ⟨i, b, h1, h2, h3⟩
            · cases h1
          have hent := enterR_sym (K := fun x h n => x = .ret v ∧ h = hp' ∧ n = nx') hrel hrun ⟨rfl, rfl, rfl⟩
          obtain ⟨h1, h2⟩ := enterC_ok hC hent hGc hRc hck.1 hck.2
          unfold CallsX
          rw [h1]
          refine Calls.mono (callsIn_wide.1 h2) fun r w' hpost => ?_
          obtain ⟨x, hp2, nx2, η', ⟨rfl, rfl, rfl⟩, hrr, hh, hlk, hn, hff, hxm⟩ := hpost
          simp only [Bool.and_eq_true, Bool.not_eq_true'] at hnd
          obtain ⟨⟨⟨hnd, hall⟩, hfw⟩, hvw⟩ := hnd
          obtain ⟨s1, s2, s3, s4⟩ := setsIn_spec hl (nodup_of hnd)
          have hkp : ∀ i c, hget (hpOf (hget hp) R) i = some c → hget hp i = some c := fun i c h => by
            rw [hpOf_get] at h
            split at h
            · exact h
            · cases h
          obtain ⟨η2, hH, hl2, h12⟩ := frame_rep (l := l) hR hf hp0 hh hlk hfw (fun i b hg => by
            rcases hsets_get hp i with ⟨b', h3, h4⟩ | ⟨h3, h4⟩
            · left; rw [hg] at h4; rw [(s2 i b' h3).1, ← h4]
            · rw [h4] at hg
              cases hq : hget (hpOf (hget hp) R) i with
              | none => exact .inr ⟨hg, rfl⟩
              | some c =>
                left
                have hi : i ∈ hp2.map (·.1) := by
                  obtain ⟨x, hx1, hx2⟩ := List.mem_map.1 (hpOf_keys hq)
                  have := List.all_eq_true.1 hall x hx1
                  rw [hx2] at this; simpa using this
                rcases setsIn_key hl i hi with ⟨b', hb'⟩ | ⟨b', h5, h6⟩
                · exact absurd hb' (h3 b')
                · have := hget_mem h5 (nodup_of hnd)
                  rw [h6] at hq
                  simp only [Option.some.injEq] at hq
                  subst hq
                  rw [this, ← hkp i b' h6, hg])
            (fun i b hg => ⟨fun hk => s4 i b hg hk, fun hk => setsIn_old hl i b hg hk⟩)
          refine ⟨η2, ?_, hH, hl2⟩
          simp only [CExit.rel] at hrr
          rw [hrr, SV.den_like h12 v hvw]
        · exact hs.elim
      · exact hs.elim
    · exact hs.elim
end
end Go.Sx
