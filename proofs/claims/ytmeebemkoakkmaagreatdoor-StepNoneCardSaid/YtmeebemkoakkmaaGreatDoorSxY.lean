import Derived.Test.YtmeebemkoakkmaaGreatDoorSxX
set_option linter.all false
/-
  The walk of what is all known is one of the walk's.
-/
noncomputable section
namespace Go.Sx
open Go
section
variable {P : Program} {Γ Δ : Ctab}

theorem splitV_lit {g : Unit → Bool} {v : SV} {k : SV → Prop} (h : k v.lit') : splitV g v.lit' k := by cases v <;> exact h
theorem chk_mk {b : Bool} {p : Prop} (h : b = true) (hp : p) : chk b p := chk_iff.2 ⟨h, hp⟩
theorem chk_mkn {b : Bool} {p : Prop} (h : b = false) (hp : p) : chk (!b) p := chk_not.2 ⟨h, hp⟩
def CallRel (callR : CallR) (callS : CallS) : Prop :=
  ∀ f vs hp nx x hp' nx' (K : CExit → Hp → Nat → Prop), callR f vs hp nx = some (x, hp', nx') → K x hp' nx' → callS f vs hp nx K

theorem runOp_sym {rd : Bool} {callR : CallR} {callS : CallS} (hc : CallRel callR callS) {gd : Unit → Bool} {o : Oper} {σ σ' : St} {e : SExit} {next : St → Prop} {K : SExit → St → Prop} (h : runOp P rd callR o σ = some (e, σ'))
    (hn : e = .normal → next σ') (hp : ∀ v, e = .panic v → K (.panic v) σ') : symOp P SV.lit' rd callS gd o σ next K := by
  unfold runOp at h
  unfold symOp
  split at h
  · rename_i hpf
    rw [hpf]; simp only
    split at h
    · rename_i v hv
      simp only [Option.some.injEq, Prod.mk.injEq] at h; obtain ⟨rfl, rfl⟩ := h
      rw [hv]; exact hp v rfl
    · rename_i hv
      rw [hv]; simp only
      split at h
      · rename_i f vs hcl
        rw [hcl]; simp only
        split at h
        · rename_i v hp' nx' hcall
          simp only [Option.some.injEq, Prod.mk.injEq] at h; obtain ⟨rfl, rfl⟩ := h
          exact hc _ _ _ _ _ _ _ _ hcall (splitV_lit (hn rfl))
        · rename_i v hp' nx' hcall
          simp only [Option.some.injEq, Prod.mk.injEq] at h; obtain ⟨rfl, rfl⟩ := h
          exact hc _ _ _ _ _ _ _ _ hcall (hp v rfl)
        · cases h
      · rename_i hcl
        rw [hcl]; simp only
        split at h
        · rename_i d hd
          rw [hd]; simp only
          split at h
          · cases h
          · rename_i hrd
            simp only [Option.some.injEq, Prod.mk.injEq] at h; obtain ⟨rfl, rfl⟩ := h
            exact chk_mkn (by simpa using hrd) (hn rfl)
        · rename_i hd
          rw [hd]; simp only
          split at h
          · rename_i v id r hm
            rw [hm]; simp only
            split at h
            · cases h
            · rename_i hcond
              simp only [Bool.or_eq_true, not_or, Bool.not_eq_true] at hcond
              simp only [Option.some.injEq, Prod.mk.injEq] at h; obtain ⟨rfl, rfl⟩ := h
              exact chk_mkn hcond.1.1 (chk_mkn hcond.1.2 (chk_mkn hcond.2 (splitV_lit (hn rfl))))
          · rename_i hm
            rw [hm]; simp only
            split at h
            · rename_i e0 hr
              split at h
              · rename_i hfr
                simp only [Option.some.injEq, Prod.mk.injEq] at h; obtain ⟨rfl, rfl⟩ := h
                exact all_of (resB_sat hr) (chk_mk hfr (splitV_lit (hn rfl)))
              · cases h
            · cases h
  · rename_i hnf
    split at h
    · rename_i e0 hr
      split at h
      · cases h
      · rename_i hm
        simp only [Option.some.injEq, Prod.mk.injEq] at h; obtain ⟨rfl, rfl⟩ := h
        have := all_of (K := fun e => chk (!e.val.men (ge σ.nx)) <| splitV gd (e.val.lit') fun u => next (σ.app o.dst { e with val := u })) (resB_sat hr) (chk_mkn (by simpa using hm) (splitV_lit (hn rfl)))
        split
        · rename_i hf; exact absurd hf hnf
        · exact this
    · cases h

theorem runOps_sym {rd : Bool} {callR : CallR} {callS : CallS} (hc : CallRel callR callS) {ops : Array Oper} {K : SExit → St → Prop} : ∀ (l : List Nat) {σ σ' : St} {e : SExit}, runOps P rd callR ops l σ = some (e, σ') → K e σ' → symOps P SV.lit' rd callS ops K l σ
  | [], σ, σ', e, h, hK => by
    simp only [runOps, Option.some.injEq, Prod.mk.injEq] at h; obtain ⟨rfl, rfl⟩ := h; exact hK
  | i :: rest, σ, σ', e, h, hK => by
    simp only [runOps] at h
    simp only [symOps]
    split at h
    · rename_i ho; rw [ho]; exact runOps_sym hc rest h hK
    · rename_i o ho
      rw [ho]; simp only
      split at h
      · rename_i hw
        rw [hw]; simp only
        split at h
        · rename_i σ1 hr
          exact runOp_sym hc hr (fun _ => runOps_sym hc rest h hK) (fun v hv => by cases hv)
        · rename_i v σ1 hr
          simp only [Option.some.injEq, Prod.mk.injEq] at h; obtain ⟨rfl, rfl⟩ := h
          exact runOp_sym hc hr (fun hv => by cases hv) (fun v' hv => by cases hv; exact hK)
        · cases h
      · rename_i hw; rw [hw]; exact runOps_sym hc rest h hK
      · cases h

theorem runD_sym {ops : Array Oper} {k0 : Nat} {K : List SR → St → Prop} : ∀ (l : List Nat) {E E' : List SR} {σ σ' : St}, runD P Γ ops k0 l E σ = some (E', σ') → K E' σ' → symD P SV.lit' Γ ops k0 K l E σ
  | [], E, E', σ, σ', h, hK => by
    simp only [runD, Option.some.injEq, Prod.mk.injEq] at h; obtain ⟨rfl, rfl⟩ := h; exact hK
  | i :: rest, E, E', σ, σ', h, hK => by
    simp only [runD] at h
    simp only [symD]
    split at h
    · cases h
    · rename_i o ho
      rw [ho]; simp only
      split at h
      · rename_i hw
        rw [hw]; simp only
        split at h
        · rename_i e he
          have hs := resB_sat he
          obtain ⟨e0, _, hee⟩ := Res.mapV_sat hs
          refine all_of hs ?_
          have hv : e.val = e0.val.lit' := by rw [hee]
          have := splitV_lit (g := fun _ => isGuard ops i) (v := e0.val) (k := fun u => symD P SV.lit' Γ ops k0 K rest (E ++ [⟨{ e with val := u }, needD P Γ σ.ev (hget σ.hp) o.op, true, isFail (pureOp P σ.ev o.op)⟩]) (σ.app o.dst { e with val := u })) (by rw [← hv]; exact runD_sym rest h hK)
          rw [← hv] at this
          exact this
        · cases h
      · rename_i hw; rw [hw]; exact runD_sym rest h hK
      · cases h
theorem runDraw_sym {ops : Array Oper} {K : SExit → St → Prop} {σ σ' : St} {e : SExit} (h : runDraw P Γ ops σ = some (e, σ')) (hK : K e σ') : symDraw P SV.lit' Γ ops K σ := by
  unfold runDraw at h
  unfold symDraw
  split at h
  · rename_i E σ1 hr
    split at h
    · rename_i hchk
      simp only [Option.some.injEq, Prod.mk.injEq] at h; obtain ⟨rfl, rfl⟩ := h
      exact runD_sym _ hr (chk_mk hchk hK)
    · cases h
  · cases h

/-- a walk of the one, as a walk of the other -/
def RunRel (rC : RunC) (sC : Bool → Code → St → SK → Prop) : Prop := ∀ rd c σ e σ' (K : SK), rC rd c σ = some (e, σ') → K e σ' → sC rd c σ K

theorem retR_sym {fn : Func} {n0 : Nat} {df : List Dfr} {σ : St} {x : CExit} {hp' : Hp} {nx' : Nat} {K : CExit → Hp → Nat → Prop} (h : retR P fn n0 df σ = some (x, hp', nx')) (hK : K x hp' nx') : retS P fn n0 K df σ := by
  unfold retR at h
  unfold retS
  split at h
  · cases h
  · rename_i hp hd
    rw [hd]; simp only
    split at h
    · rename_i vs o hr
      rw [hr]; simp only
      split at h
      · cases h
      · rename_i hc
        simp only [Bool.or_eq_true, not_or, Bool.not_eq_true, Bool.not_eq_false'] at hc
        simp only [Option.some.injEq, Prod.mk.injEq] at h; obtain ⟨rfl, rfl, rfl⟩ := h
        rw [withObl_iff]
        exact ⟨yes_all hc.2, chk_mkn hc.1 hK⟩
    · cases h

theorem dcloR_sym {rC : RunC} {sC : Bool → Code → St → SK → Prop} (hC : RunRel rC sC) {f : FuncId} {caps : List SV} {pv : SV} {σ σ' : St} {k : St → Prop} (h : dcloR P rC f caps pv σ = some σ') (hk : k σ') : dcloS P sC f caps pv σ k := by
  unfold dcloR at h
  unfold dcloS
  split at h
  · rename_i fn hfn
    rw [hfn]; simp only
    split at h
    · rename_i id ops rest hb
      rw [hb]; simp only
      split at h
      · cases h
      · rename_i hcond
        simp only [Bool.or_eq_true, not_or, Bool.not_eq_true, Bool.not_eq_false'] at hcond
        refine chk_mkn hcond.1 (chk_mk hcond.2 ?_)
        · split at h
          · rename_i o ho
            rw [ho]; simp only
            split at h
            · rename_i hrec
              simp only [Bool.and_eq_true] at hrec
              refine chk_mk hrec.1 (chk_mk hrec.2 ?_)
              simp only at h
              split at h
              · rename_i σ1 hrun
                split
                rotate_left
                · rename_i hno
                  exact absurd (hrun.symm.trans hno) (by simp)
                rename_i σ1' hrun'
                have he : σ1 = σ1' := by have := hrun.symm.trans hrun'; simpa using this
                subst he
                split at h
                · rename_i σ2 hr
                  split at h
                  · rename_i hdf
                    simp only [Option.some.injEq] at h; subst h
                    exact hC _ _ _ _ _ _ hr (chk_mk hdf hk)
                  · cases h
                · rename_i σ2 hr
                  split at h
                  · rename_i hdf
                    simp only [Option.some.injEq] at h; subst h
                    exact hC _ _ _ _ _ _ hr (chk_mk hdf hk)
                  · cases h
                · cases h
              · cases h
            · cases h
          · cases h
    · cases h
  · cases h
end
end Go.Sx
