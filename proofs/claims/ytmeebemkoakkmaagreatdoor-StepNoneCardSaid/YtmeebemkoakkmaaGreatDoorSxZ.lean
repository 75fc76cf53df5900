import Derived.Test.YtmeebemkoakkmaaGreatDoorSxY
set_option linter.all false
noncomputable section
namespace Go.Sx
open Go
section
variable {P : Program} {Γ Δ : Ctab}

theorem endR_sym {rC : RunC} {sC : Bool → Code → St → SK → Prop} (hC : RunRel rC sC) {fn : Func} {n0 : Nat} {e : SExit} {σ : St} {x : CExit} {hp' : Hp} {nx' : Nat} {K : CExit → Hp → Nat → Prop} (h : endR P rC fn n0 e σ = some (x, hp', nx')) (hK : K x hp' nx') :
    endS P sC fn n0 K e σ := by
  unfold endR at h
  unfold endS
  cases e with
  | normal =>
    simp only at h ⊢
    split at h
    · rename_i f caps df hdf
      rw [hdf]; simp only
      split at h
      · rename_i σ1 hd; exact dcloR_sym hC hd (retR_sym h hK)
      · cases h
    · rename_i hno
      split
      · rename_i f caps df hdf; exact absurd hdf (hno f caps df)
      · exact retR_sym h hK
  | ret =>
    simp only at h ⊢
    split at h
    · rename_i f caps df hdf
      rw [hdf]; simp only
      split at h
      · rename_i σ1 hd; exact dcloR_sym hC hd (retR_sym h hK)
      · cases h
    · rename_i hno
      split
      · rename_i f caps df hdf; exact absurd hdf (hno f caps df)
      · exact retR_sym h hK
  | panic v =>
    simp only at h ⊢
    split at h
    · rename_i f caps df hdf
      rw [hdf]; simp only
      split at h
      · rename_i σ1 hd; exact dcloR_sym hC hd (retR_sym h hK)
      · cases h
    · rename_i hno
      split
      · rename_i f caps df hdf; exact absurd hdf (hno f caps df)
      · split at h
        · rename_i hp hd
          simp only [Option.some.injEq, Prod.mk.injEq] at h; obtain ⟨rfl, rfl, rfl⟩ := h
          rw [hd]; exact hK
        · cases h
  | exit id => cases h

theorem enterR_sym {rC : RunC} {sC : Bool → Code → St → SK → Prop} (hC : RunRel rC sC) {f : FuncId} {vs : List SV} {hp : Hp} {nx : Nat} {x : CExit} {hp' : Hp} {nx' : Nat} {K : CExit → Hp → Nat → Prop} (h : enterR P rC f vs hp nx = some (x, hp', nx')) (hK : K x hp' nx') :
    enterC P sC f vs hp nx K := by
  unfold enterR at h
  unfold enterC
  split at h
  · rename_i fn hfn
    rw [hfn]; simp only
    split at h
    · rename_i c hb
      rw [hb]; simp only
      split at h
      · cases h
      · rename_i hname
        refine chk_mkn (by simpa using hname) ?_
        split at h
        · rename_i e σ hr
          exact hC _ _ _ _ _ _ hr (endR_sym hC h hK)
        · cases h
    · cases h
  · cases h

theorem roundR_sym {rC : RunC} {sC : Bool → Code → St → SK → Prop} (hC : RunRel rC sC) {id : Nat} {vs : List SV} {hp : Hp} {nx : Nat} {x : CExit} {hp' : Hp} {nx' : Nat} {K : CExit → Hp → Nat → Prop} (h : roundR rC id vs hp nx = some (x, hp', nx')) (hK : K x hp' nx') :
    roundS sC id vs hp nx K := by
  unfold roundR at h
  unfold roundS
  split at h
  · cases h
  · rename_i r hl
    rw [hl]; simp only
    split at h
    · rename_i hc
      simp only [Bool.and_eq_true, Bool.not_eq_true', decide_eq_true_eq] at hc
      refine chk_mkn hc.1.1 (chk_mk (decide_eq_true hc.1.2) (chk_mk (decide_eq_true hc.2) ?_))
      split at h
      · rename_i σ1 hr
        refine hC _ _ _ _ _ _ hr ?_
        simp only
        split at h
        · cases h
        · rename_i r1 hl1
          rw [hl1]; simp only
          split at h
          · rename_i hc1
            simp only [Bool.and_eq_true, Bool.not_eq_true', decide_eq_true_eq] at hc1
            refine chk_mkn hc1.1 (chk_mk (decide_eq_true hc1.2) ?_)
            split at h
            · rename_i e σ2 hr2
              refine hC _ _ _ _ _ _ hr2 ?_
              split at h
              · cases h
              · rename_i r2 hl2
                rw [hl2]; simp only
                split at h
                · cases h
                · rename_i hc2
                  refine chk_mkn (by simpa using hc2) ?_
                  cases e <;> simp only [Option.some.injEq, Prod.mk.injEq, reduceCtorEq] at h
                  all_goals (obtain ⟨rfl, rfl, rfl⟩ := h; exact hK)
            · cases h
          · cases h
      · cases h
    · cases h

theorem inlineR_sym {rC : RunC} {sC : Bool → Code → St → SK → Prop} (hC : RunRel rC sC) : CallRel (inlineR P Δ rC) (inlineS P Δ sC) := by
  intro f vs hp nx x hp' nx' K h hK
  unfold inlineR at h
  unfold inlineS
  cases f with
  | yl id => exact roundR_sym hC h hK
  | fn f =>
    simp only at h ⊢
    split at h
    · rename_i C hCf
      rw [hCf]; simp only
      split at h
      · rename_i e he
        split at h
        · rename_i hfr
          simp only [Option.some.injEq, Prod.mk.injEq] at h; obtain ⟨rfl, rfl, rfl⟩ := h
          exact all_of (resB_sat he) (chk_mk hfr hK)
        · cases h
      · cases h
    · rename_i hCf
      rw [hCf]; exact enterR_sym hC h hK

theorem rangeR_sym {rC : RunC} {sC : Bool → Code → St → SK → Prop} (hC : RunRel rC sC) {g : Operand} {ps : Array Tmp} {asg body : Code} {σ σ' : St} {e : SExit} {K : SK} (h : rangeR P rC g ps asg body σ = some (e, σ')) (hK : K e σ') : rangeS P sC g ps asg body σ K := by
  unfold rangeR at h
  unfold rangeS
  split at h
  · rename_i gf first caps hg
    rw [hg]; simp only
    split at h
    · rename_i v hp' nx' hr
      refine enterR_sym hC hr ?_
      simp only
      split at h
      · cases h
      · rename_i r hl
        rw [hl]; simp only
        split at h
        · cases h
        · rename_i hc
          simp only [Bool.or_eq_true, not_or, Bool.not_eq_true, decide_eq_true_eq] at hc
          refine chk_mkn hc.1 (chk_mkn (decide_eq_false hc.2) ?_)
          split at h
          · rename_i hp0; simp only [Option.some.injEq, Prod.mk.injEq] at h; obtain ⟨rfl, rfl⟩ := h; simp only [hp0] at hK ⊢; exact hK
          · rename_i hp0; simp only [Option.some.injEq, Prod.mk.injEq] at h; obtain ⟨rfl, rfl⟩ := h; simp only [hp0] at hK ⊢; exact hK
          · rename_i k hp0; simp only [Option.some.injEq, Prod.mk.injEq] at h; obtain ⟨rfl, rfl⟩ := h; simp only [hp0] at hK ⊢; exact hK
          · cases h
    · rename_i v hp' nx' hr
      simp only [Option.some.injEq, Prod.mk.injEq] at h; obtain ⟨rfl, rfl⟩ := h
      exact enterR_sym hC hr hK
    · cases h
  · cases h

theorem runC_sym : ∀ n, RunRel (runC P Γ Δ n) (symC P SV.lit' Γ Δ n noHints)
  | 0 => fun rd c σ e σ' K h hK => by cases h
  | n + 1 => by
    have ih := runC_sym n
    intro rd c σ e σ' K h hK
    cases c with
    | skip => simp only [runC, Option.some.injEq, Prod.mk.injEq] at h; obtain ⟨rfl, rfl⟩ := h; exact hK
    | ret => simp only [runC, Option.some.injEq, Prod.mk.injEq] at h; obtain ⟨rfl, rfl⟩ := h; exact hK
    | exit id => simp only [runC, Option.some.injEq, Prod.mk.injEq] at h; obtain ⟨rfl, rfl⟩ := h; exact hK
    | label l => simp only [runC, Option.some.injEq, Prod.mk.injEq] at h; obtain ⟨rfl, rfl⟩ := h; exact hK
    | seq a b =>
      simp only [runC] at h
      simp only [symC]
      split at h
      · rename_i σ1 hr; exact ih _ _ _ _ _ _ hr (ih _ _ _ _ _ _ h hK)
      · rename_i x hx
        refine ih _ _ _ _ _ _ h ?_
        cases e with
        | normal => exact absurd h (hx σ')
        | _ => exact hK
    | cond x a b =>
      simp only [runC] at h
      simp only [symC]
      split at h
      · rename_i hx; rw [hx]; exact ih _ _ _ _ _ _ h hK
      · rename_i hx; rw [hx]; exact ih _ _ _ _ _ _ h hK
      · cases h
    | scope b =>
      simp only [runC] at h
      simp only [symC]
      split at h
      · cases h
      · rename_i hrd; exact chk_mkn (by simpa using hrd) (ih _ _ _ _ _ _ h hK)
    | block id b =>
      simp only [runC] at h
      simp only [symC, noHints]
      split at h
      · rename_i id' σ1 hr
        refine ih _ _ _ _ _ _ hr ?_
        simp only
        split at h
        · rename_i hid; simp only [Option.some.injEq, Prod.mk.injEq] at h; obtain ⟨rfl, rfl⟩ := h; rw [if_pos hid]; exact hK
        · rename_i hid; simp only [Option.some.injEq, Prod.mk.injEq] at h; obtain ⟨rfl, rfl⟩ := h; rw [if_neg hid]; exact hK
      · rename_i x hx
        refine ih _ _ _ _ _ _ h ?_
        cases e with
        | exit id' => exact absurd h (hx id' σ')
        | _ => exact hK
    | loop b =>
      simp only [runC] at h
      simp only [symC]
      split at h
      · rename_i σ1 hr; exact ih _ _ _ _ _ _ hr (ih _ _ _ _ _ _ h hK)
      · rename_i x hx
        refine ih _ _ _ _ _ _ h ?_
        cases e with
        | normal => exact absurd h (hx σ')
        | _ => exact hK
    | region id ops draw =>
      simp only [runC] at h
      simp only [symC]
      cases draw with
      | true => simp only [if_true] at h ⊢; exact runDraw_sym h hK
      | false => simp only [Bool.false_eq_true, if_false] at h ⊢; exact runOps_sym (inlineR_sym ih) _ h hK
    | rangeFunc g ps asg body =>
      simp only [runC] at h
      simp only [symC]
      split at h
      · cases h
      · rename_i hrd; exact chk_mkn (by simpa using hrd) (rangeR_sym ih h hK)
    | goto l => cases h
    | refuse y => cases h
end
end Go.Sx
