import Derived.Test.YtmeebemkoakkmaaGreatDoorSxU
set_option linter.all false
/-
  Ends of functions; deferred calls; rounds.
-/
noncomputable section
namespace Go.Sx
open Go
section
variable {P : Program} {Γ : Ctab}

theorem leave_marks {B : Base} {η : Env} : ∀ {df : List Dfr} {hp0 hp : Hp} {w : World}, dropMarks df hp0 = some hp → HRep B η hp0 w → ∃ w', HRep B η hp w' ∧
    ∀ (fn : Func) (tmps : Array Value) (R : Ending → World → Prop) (u : FrameMode), u ≠ .run → LeavesInM Fence.wide 0 P fn tmps R [] u w' → LeavesInM Fence.wide 0 P fn tmps R (df.map (Dfr.den η)) u w
  | [], hp0, hp, w, h, hR => by
    simp only [dropMarks, Option.some.injEq] at h; subst h
    exact ⟨w, hR, fun _ _ _ _ _ h => h⟩
  | .mark id :: r, hp0, hp, w, h, hR => by
    simp only [dropMarks] at h
    split at h
    · rename_i lr hl
      split at h
      · cases h
      rename_i hmp
      obtain ⟨h1, h2⟩ := hR.take (P := P) hl (by simpa using hmp)
      obtain ⟨w', h3, h4⟩ := leave_marks h h2
      refine ⟨w', h3, fun fn tmps R u hu hL => ?_⟩
      exact ⟨hu, .inl ⟨η.cap id, _, rfl, h1, h4 fn tmps R u hu hL⟩⟩
    · cases h
  | .clo _ _ :: _, _, _, _, h, _ => by simp [dropMarks] at h

theorem fresh_marks {p : Nat → Bool} : ∀ {df : List Dfr} {hp0 hp : Hp}, dropMarks df hp0 = some hp → Hp.fresh p hp0 = true → dmens p df = false → Hp.fresh p hp = true
  | [], hp0, hp, h, hf, _ => by simp only [dropMarks, Option.some.injEq] at h; subst h; exact hf
  | .mark id :: r, hp0, hp, h, hf, hd => by
    simp only [dropMarks] at h
    simp only [dmens, Bool.or_eq_false_iff] at hd
    split at h
    · split at h
      · cases h
      exact fresh_marks h (Hp.fresh_eset (e := .dead) hd.1 rfl hf) hd.2
    · cases h
  | .clo _ _ :: _, _, _, h, _, _ => by simp [dropMarks] at h

/-- what a call must come to -/
def CPost (B : Base) (η0 : Env) (nx0 : Nat) (K : CExit → Hp → Nat → Prop) (r : Ending) (w' : World) : Prop :=
  ∃ x hp' nx' η', K x hp' nx' ∧ x.rel η' r ∧ HRep B η' hp' w' ∧ η0.like η' (ge nx0) ∧ nx0 ≤ nx' ∧ Hp.fresh (ge nx') hp' = true ∧ x.men (ge nx') = false

theorem retS_sound {B : Base} {η0 η : Env} {nx0 n0 : Nat} {fn : Func} {K : CExit → Hp → Nat → Prop} {df : List Dfr} {σ : St} {a : Act} {w : World} (h : retS P fn n0 K df σ) (hR : Rep B η σ a w) (hf : σ.fresh (ge σ.nx) = true)
    (hd : dmens (ge σ.nx) df = false) (hl : η0.like η (ge nx0)) (hn : nx0 ≤ σ.nx) : LeavesInM Fence.wide 0 P fn a.tmps (CPost B η0 nx0 K) (df.map (Dfr.den η)) .returning w := by
  unfold retS at h
  split at h
  · exact h.elim
  · rename_i hp hdm
    split at h
    · rename_i vs o hres
      rw [withObl_iff] at h
      obtain ⟨ho, h⟩ := h
      obtain ⟨hm, hK⟩ := chk_not.1 h
      obtain ⟨w', h1, h2⟩ := leave_marks (P := P) hdm hR.hp
      refine h2 fn a.tmps _ .returning (by simp) ?_
      have hR' : Rep B η { σ with hp := hp } a w' := ⟨hR.len, hR.tm, h1, hR.df⟩
      exact ⟨_, results_sound hR' hres ho, .ret (resV vs), _, σ.nx, η, hK, rfl, h1.gc n0 _, hl, hn, fresh_gc (fresh_marks hdm (fresh_tm hf).2.1 hd) n0 _, hm⟩
    · exact h.elim

theorem pureRun_sound {B : Base} {η : Env} {ops : Array Oper} {Q : Exit → Act → List Frame → World → Prop} {cs : List Frame} {w : World} : ∀ {l : List Nat} {σ σ1 : St} {a : Act}, pureRun P ops l σ = some σ1 → Rep B η σ a w → σ.fresh (ge σ.nx) = true →
    (∀ a1, Rep B η σ1 a1 w → σ1.fresh (ge σ1.nx) = true → σ1.hp = σ.hp → σ1.nx = σ.nx → Q .normal a1 cs w) → wpOpsSIn Fence.wide 0 P ops Q l a cs w
  | [], σ, σ1, a, h, hR, hf, hQ => by
    simp only [pureRun, Option.some.injEq] at h; subst h; exact hQ a hR hf rfl rfl
  | i :: r, σ, σ1, a, h, hR, hf, hQ => by
    simp only [pureRun] at h
    split at h
    · rename_i o ho
      split at h
      · rename_i v hg hp
        split at h
        · cases h
        · rename_i hm
          simp only [Bool.not_eq_true] at hm
          simp only [wpOpsSIn, ho]
          have hwant : Region.wanted o (yielded ops a.tmps) = true := by unfold Region.wanted; rw [hg]
          refine ⟨fun _ _ => trivial, ?_⟩
          rw [if_pos hwant, hR.evalF]
          have hsat : (pureOp P σ.ev o.op).sat ⟨[], v, []⟩ := by rw [hp]; exact ⟨rfl, fun p hp => by cases hp⟩
          rw [(pureOp_sound (η := η) (w := w) hsat).2]
          simp only
          exact pureRun_sound h (hR.put o.dst v) (put_fresh hf hm o.dst σ.hp σ.nx (fresh_tm hf).2.1) fun a1 h1 h2 h3 h4 => hQ a1 h1 h2 h3 h4
      · cases h
    · cases h

theorem isRecover_run {o : Oper} {ρ : Operand → Value} {w : World} (h : isRecover o.op = true) : (execOp ρ o).run P w = .ok .recover w := by
  obtain ⟨dst, op, ty, pos, after, guard⟩ := o
  unfold isRecover at h
  split at h
  · rename_i c args _ hc
    simp only at hc; subst hc
    have : args = #[] := Array.eq_empty_of_size_eq_zero (by simpa using h)
    subst this
    simp [go_sem]
  · cases h

/-- a deferred call -/
theorem dcloS_sound {sC : Bool → Code → St → SK → Prop} {GB : Base → Prop} (hC : CodeOk P GB sC) {B : Base} (hB : GB B) {η : Env} {f : FuncId} {caps : List SV} {pv : SV} {σ : St} {k : St → Prop} {a : Act} {w : World} (h : dcloS P sC f caps pv σ k) (hR : Rep B η σ a w) (hf : σ.fresh (ge σ.nx) = true)
    (hcm : mens (ge σ.nx) caps = false) (hpm : pv.men (ge σ.nx) = false) {u : FrameMode} (hu : (u = .returning ∧ pv = .nili) ∨ u = .panicking [{ v := pv.den η, recovered := false }]) :
    (callFunc f (dens η caps).toArray).run P w = .ok (.enter f (dens η caps).toArray) w ∧
    CallsDIn Fence.wide 0 P f (dens η caps).toArray u w fun e u' w' => (∃ v, e = .returned v) ∧ settle u' = .returning ∧ ∃ hp' nx' η', k { σ with hp := hp', nx := nx' } ∧ Rep B η' { σ with hp := hp', nx := nx' } a w' ∧ η.like η' (ge σ.nx) ∧ σ.nx ≤ nx' ∧ St.fresh (ge nx') { σ with hp := hp', nx := nx' } = true := by
  unfold dcloS at h
  split at h
  · rename_i fn hfn
    split at h
    · rename_i id ops rest hb
      obtain ⟨hname, h⟩ := chk_not.1 h
      obtain ⟨hres, h⟩ := chk_iff.1 h
      replace hres : fn.results = #[] := by simpa using hres
      split at h
      · rename_i o ho
        obtain ⟨hrec, h⟩ := chk_iff.1 h
        obtain ⟨hg, h⟩ := chk_iff.1 h
        refine ⟨?_, ?_⟩
        · unfold callFunc
          simp only [Sem.run_bind, run_program, Result.andThen_ok, hfn, hname, Bool.false_eq_true, if_false, hb, Option.isNone_some, Sem.run_pure]
        · refine callsDIn_of_wpSIn hfn hb trivial fun c₀ cs hc₀ => ?_
          refine wpSIn_seq (wpSIn_region ?_)
          have hsz : 0 < ops.size := by
            have := (Array.getElem?_eq_some_iff.1 ho).1; exact this
          have hrange : List.range ops.size = 0 :: List.range' 1 (ops.size - 1) := by
            rw [List.range_eq_range']
            obtain ⟨m, hm⟩ : ∃ m, ops.size = m + 1 := ⟨ops.size - 1, by omega⟩
            rw [hm]; simp [List.range'_succ]
          rw [hrange]
          simp only [wpOpsSIn, ho]
          refine ⟨fun _ _ => trivial, ?_⟩
          have hwant : ∀ y, Region.wanted o y = true := fun y => by
            unfold Region.wanted
            cases hgg : o.guard with
            | none => rfl
            | some x => rw [hgg] at hg; cases hg
          rw [if_pos (hwant _), isRecover_run hrec]
          simp only
          obtain ⟨hf1, hf2, hf3⟩ := fresh_tm hf
          have hen := enterS_rep (B := B) (η := η) (fn := fn) (vs := caps) (nx := σ.nx) hR.hp
          have hef := enterS_fresh (p := ge σ.nx) (fn := fn) (vs := caps) (nx := σ.nx) hcm hf2
          simp only at h
          -- the rest of it, whatever the frame below
          have key : ∀ (c₁ : Frame), settle c₁.mode = .returning → (c₁ = { c₀ with mode := c₁.mode }) →
              wpOpsSIn Fence.wide 0 P ops (Exit.thenS (rest.wpSIn Fence.wide 0 P (bodyPostS P fn c₀ cs fun e u' w' => (∃ v, e = .returned v) ∧ settle u' = .returning ∧ ∃ hp' nx' η', k { σ with hp := hp', nx := nx' } ∧ Rep B η' { σ with hp := hp', nx := nx' } a w' ∧ η.like η' (ge σ.nx) ∧ σ.nx ≤ nx' ∧ St.fresh (ge nx') { σ with hp := hp', nx := nx' } = true))
                (bodyPostS P fn c₀ cs fun e u' w' => (∃ v, e = .returned v) ∧ settle u' = .returning ∧ ∃ hp' nx' η', k { σ with hp := hp', nx := nx' } ∧ Rep B η' { σ with hp := hp', nx := nx' } a w' ∧ η.like η' (ge σ.nx) ∧ σ.nx ≤ nx' ∧ St.fresh (ge nx') { σ with hp := hp', nx := nx' } = true))
                (List.range' 1 (ops.size - 1)) (Act.put { tmps := (dens η caps).toArray ++ Array.replicate (fn.ntmps - (dens η caps).toArray.size) undef, defers := [] } o.dst (pv.den η)) (c₁ :: cs) w := by
            intro c₁ hs hc₁
            split at h
            · rename_i σ1 hrun
              refine pureRun_sound hrun (hen.put o.dst pv) (put_fresh hef hpm o.dst σ.hp σ.nx hf2) fun a1 hR1 hf1' hh hnx => ?_
              show rest.wpSIn Fence.wide 0 P _ a1 (c₁ :: cs) w
              refine wpSIn_of_wpIn rfl ?_
              refine hC false rest σ1 _ h none rfl B hB η a1 w _ hR1 hf1' fun e a2 w2 hp => ?_
              obtain ⟨x, σ2, η2, hK, hrel, hR2, hl2, hn2, hff2, hxm⟩ := hp
              have hl2' : η.like η2 (ge σ.nx) := hnx ▸ hl2
              have hn2' : σ.nx ≤ σ2.nx := hnx ▸ hn2
              have fin : σ2.df.isEmpty = true ∧ k { σ with hp := σ2.hp, nx := σ2.nx } → a2.defers = [] ∧ ∃ u', c₁ :: cs = { c₀ with mode := u' } :: cs ∧ ∃ v, (results fn a2.tmps).run P w2 = .ok v w2 ∧ (∃ v', Ending.returned v = .returned v') ∧ settle u' = .returning ∧
                  ∃ hp' nx' η', k { σ with hp := hp', nx := nx' } ∧ Rep B η' { σ with hp := hp', nx := nx' } a w2 ∧ η.like η' (ge σ.nx) ∧ σ.nx ≤ nx' ∧ St.fresh (ge nx') { σ with hp := hp', nx := nx' } = true := fun ⟨hdf, hk⟩ => by
                refine ⟨?_, c₁.mode, by rw [← hc₁], .tuple #[], ?_, ⟨_, rfl⟩, hs, σ2.hp, σ2.nx, η2, hk, hR.turn hf1 hf3 hl2' hR2.hp, hl2', hn2', ?_⟩
                · rw [hR2.df, List.isEmpty_iff.1 hdf]; rfl
                · have hres2 : resL P σ2 fn.results.toList = some ([], []) := by rw [hres]; rfl
                  have := results_sound (P := P) hR2 hres2 (fun p hp => by cases hp)
                  exact this
                · exact fresh_iff.2 ⟨mens_mono (ge_mono hn2') _ hf1, (fresh_tm hff2).2.1, dmens_mono (ge_mono hn2') hf3⟩
              cases x with
              | normal => cases hrel; exact fin (chk_iff.1 hK)
              | ret => cases hrel; exact fin (chk_iff.1 hK)
              | exit id => exact hK.elim
              | panic v => exact hK.elim
            · exact h.elim
          rcases hu with ⟨hu, hpv⟩ | hu
          · have hrd : recoverD (c₀ :: cs) = none := by simp only [recoverD, hc₀, hu]
            rw [hrd]
            simp only
            have := key c₀ (by rw [hc₀, hu]; rfl) (by cases c₀; rfl)
            rw [hpv] at this
            exact this
          · have hrd : recoverD (c₀ :: cs) = some (pv.den η, { c₀ with mode := .panicking [{ v := pv.den η, recovered := true }] } :: cs) := by simp only [recoverD, hc₀, hu]
            rw [hrd]
            simp only
            exact key { c₀ with mode := .panicking [{ v := pv.den η, recovered := true }] } (by simp [settle]) rfl
      · exact h.elim
    · exact h.elim
  · exact h.elim
end
end Go.Sx
