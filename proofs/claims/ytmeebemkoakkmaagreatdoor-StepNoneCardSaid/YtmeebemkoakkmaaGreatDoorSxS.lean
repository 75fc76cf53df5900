import Derived.Test.YtmeebemkoakkmaaGreatDoorSxW
set_option linter.all false
noncomputable section
namespace Go.Sx
open Go

/-- a loop under a ghost -/
theorem wpIn_loopG {P : Program} {r : Option Nat} {Q : Exit → Act → World → Prop} {α : Type 1} {c : Code} (I : α → Act → World → Prop) (μ : α → Nat) {x0 : α} {a : Act} {w : World} (h0 : I x0 a w)
    (round : ∀ x a w, I x a w → c.wpIn (FR r) 0 P (Exit.then (fun a' w' => ∃ x', I x' a' w' ∧ μ x' < μ x) Q) a w) : (Code.loop c).wpIn (FR r) 0 P Q a w := by
  intro b k cs hro hb hr
  have key : ∀ n x a w, μ x = n → I x a w →
      ∃ e a' w', Q e a' w' ∧ ArrivesIn (Machine.fenced P (FR r)) P (lone (b.atR a (.code c :: .inLoop c :: k)) cs w) b k cs e a' w' := by
    intro n
    induction n using Nat.strongRecOn with
    | _ n ih =>
      intro x a w hn hI
      obtain ⟨e, a₁, w₁, hq, harr⟩ := round x a w hI b (.inLoop c :: k) cs hro hb hr
      cases e with
      | normal =>
        obtain ⟨x', hI₁, hlt⟩ := hq
        obtain ⟨e₂, a₂, w₂, hq₂, harr₂⟩ := ih (μ x') (hn ▸ hlt) x' a₁ w₁ rfl hI₁
        exact ⟨e₂, a₂, w₂, hq₂, .of_steps (StepsIn.trans harr (.one (fenced_calm hb hr rfl) stepR_inLoop)) harr₂⟩
      | exit id => exact ⟨_, a₁, w₁, hq, .pass (x := .inLoop c) rfl (fun _ _ => .inl (by simp)) harr⟩
      | goto l => exact ⟨_, a₁, w₁, hq, .pass (x := .inLoop c) rfl (fun _ _ => .inl (by simp)) harr⟩
      | ret => exact ⟨_, a₁, w₁, hq, .pass (x := .inLoop c) rfl (fun _ _ => .inl (by simp)) harr⟩
      | panic ch => exact ⟨_, a₁, w₁, hq, .pass (x := .inLoop c) rfl (fun _ _ => .inl (by simp)) harr⟩
      | outgrown => exact ⟨_, a₁, w₁, hq, .pass (x := .inLoop c) rfl (fun _ _ => .inl (by simp)) harr⟩
  obtain ⟨e, a', w', hq, harr⟩ := key _ x0 a w rfl h0
  exact ⟨e, a', w', hq, .of_steps (.one (fenced_calm hb hr rfl) stepR_loop) harr⟩

theorem dropHp_get : ∀ (m : Ren) (h : Hp) (i : Nat) (b : Blk), hget (dropHp h m) i = some b → hget h i = some b
  | [], _, _, _, h => h
  | (j, k) :: r, h, i, b, hg => by
    simp only [dropHp] at hg
    split at hg
    · exact dropHp_get r h i b hg
    · have := dropHp_get r _ i b hg
      rw [hget_hset] at this
      split at this
      · cases this
      · exact this

structure GX (l : List Form) where
  F : Form
  hF : F ∈ l
  x : F.α

section
variable {P : Program} {Γ Δ : Ctab}

theorem symC_ok {fx : SV → SV} (hfx : FixOk fx) {GB : Base → Prop} (hΓ : CtabOk P GB Γ) (hΔ : CtabOk P GB Δ) (hm : P.follows .mixedOrders = true) : ∀ (n : Nat) (H : Hfun), CodeOk P GB (symC P fx Γ Δ n H) := by
  intro n
  induction n using Nat.strongRecOn with
  | _ n ih =>
  intro H
  cases n with
  | zero => intro rd c σ K h; exact h.elim
  | succ n =>
  have ihn := ih n (Nat.lt_succ_self n)
  intro rd c σ K h r hrd B hB η a w Q hR hf hQ
  cases c with
  | skip => exact wpIn_skip (hQ _ _ _ ⟨.normal, σ, η, h, rfl, hR, η.like_refl _, Nat.le_refl _, hf, rfl⟩)
  | ret => exact wpIn_ret (hQ _ _ _ ⟨.ret, σ, η, h, rfl, hR, η.like_refl _, Nat.le_refl _, hf, rfl⟩)
  | exit id => exact wpIn_exit (hQ _ _ _ ⟨.exit id, σ, η, h, rfl, hR, η.like_refl _, Nat.le_refl _, hf, rfl⟩)
  | label l => exact wpIn_label (hQ _ _ _ ⟨.normal, σ, η, h, rfl, hR, η.like_refl _, Nat.le_refl _, hf, rfl⟩)
  | seq x y =>
    simp only [symC] at h
    refine wpIn_seq (ihn H rd x σ _ h r hrd B hB η a w _ hR hf fun e a' w' hp => ?_)
    obtain ⟨x', σ', η', hK, hrel, hR', hl, hn, hff, hxm⟩ := hp
    cases x' with
    | normal =>
      cases hrel
      exact ihn H rd y σ' _ hK r hrd B hB η' a' w' _ hR' hff fun e a'' w'' hp' => hQ e a'' w'' (hp'.mono hl hn)
    | exit id => cases hrel; exact hQ _ _ _ ⟨.exit id, σ', η', hK, rfl, hR', hl, hn, hff, hxm⟩
    | ret => cases hrel; exact hQ _ _ _ ⟨.ret, σ', η', hK, rfl, hR', hl, hn, hff, hxm⟩
    | panic v => cases hrel; exact hQ _ _ _ ⟨.panic v, σ', η', hK, rfl, hR', hl, hn, hff, hxm⟩
  | cond x s t =>
    simp only [symC] at h
    have hev := hR.eval x
    split at h
    · rename_i hx; rw [hx] at hev; exact wpIn_cond_true hev (ihn H rd s σ K h r hrd B hB η a w Q hR hf hQ)
    · rename_i hx; rw [hx] at hev; exact wpIn_cond_false hev (ihn H rd t σ K h r hrd B hB η a w Q hR hf hQ)
    · rename_i b hx; rw [hx] at hev
      exact wpIn_cond_split hev (fun hb => ihn H rd s σ K (h.1 hb) r hrd B hB η a w Q hR hf hQ) (fun hb => ihn H rd t σ K (h.2 hb) r hrd B hB η a w Q hR hf hQ)
    · exact h.elim
  | scope b =>
    simp only [symC] at h
    obtain ⟨h0, h⟩ := chk_not.1 h
    have hr0 : r = none := by
      cases r with
      | none => rfl
      | some l => rw [h0] at hrd; cases hrd
    subst hr0
    refine wpIn_wide.2 (wp_scope_straight (wpIn_wide.1 (ihn H rd b σ K h none hrd B hB η a w _ hR hf fun e a' w' hp => ?_)))
    have hq := hQ e a' w' hp
    obtain ⟨x', σ', η', hK, hrel, _⟩ := hp
    cases x' <;> cases hrel <;> exact hq
  | block id b =>
    simp only [symC] at h
    split at h
    · rename_i hint c hH
      obtain ⟨x0, hinv, hends, hfr, hall⟩ := h
      generalize hσb : baseS σ (pairs σ (hint.form0.slots (σ.nx + σ.tm.length) x0) (hint.form0.blks (σ.nx + σ.tm.length) x0)) = σb at *
      have hnx : σb.nx = σ.nx := by rw [← hσb]; rfl
      have htm : σb.tm = σ.tm := by rw [← hσb]; rfl
      have hlen : σb.nx + σb.tm.length = σ.nx + σ.tm.length := by rw [hnx, htm]
      refine wpIn_block (wpIn_loopG (α := GX (hint.form0 :: hint.forms))
        (fun g a w => g.F.inv g.x ∧ ∃ η1, Rep B η1 (headS hint.junk σb (g.F.slots (σ.nx + σ.tm.length) g.x) (g.F.blks (σ.nx + σ.tm.length) g.x)) a w ∧ η.like η1 (ge σ.nx))
        (fun g => g.F.μ g.x) (x0 := ⟨hint.form0, List.mem_cons_self .., x0⟩) ?_ ?_)
      · have hRb : Rep B η σ a w := hR
        obtain ⟨η2, hR2, hl2⟩ := head_rep hR (by rw [hnx]; exact hfr) hends
        rw [hnx] at hl2
        exact ⟨hinv, η2, hR2, hl2⟩
      · rintro g a1 w1 ⟨hi, η1, hR1, hl1⟩
        obtain ⟨hfh, hbody⟩ := allForms_mem hall g.F g.hF g.x hi
        have hhn : (headS hint.junk σb (g.F.slots (σ.nx + σ.tm.length) g.x) (g.F.blks (σ.nx + σ.tm.length) g.x)).nx = σ.nx + σ.tm.length + 64 := by simp only [headS, hnx, htm]
        refine ihn H rd c _ _ hbody r hrd B hB η1 a1 w1 _ hR1 (by rw [hhn]; exact hfh) fun e a' w' hp => ?_
        obtain ⟨x', σ', η', hK, hrel, hR', hl, hn, hff, hxm⟩ := hp
        have hnxh : σ.nx ≤ (headS hint.junk σb (g.F.slots (σ.nx + σ.tm.length) g.x) (g.F.blks (σ.nx + σ.tm.length) g.x)).nx := by
          rw [hhn]; omega
        have hlike : η.like η' (ge σ.nx) := hl1.trans (hl.mono (ge_mono hnxh))
        have hn' : σ.nx ≤ σ'.nx := Nat.le_trans hnxh hn
        cases x' with
        | normal =>
          cases hrel
          obtain ⟨F', hF', x'', hi', hμ, hends'⟩ := endsAny_mem hK
          rw [hlen] at hends'
          obtain ⟨η2, hR2, hl2⟩ := head_rep hR' (by rw [hnx]; exact hfr) hends'
          rw [hnx] at hl2
          exact ⟨⟨F', hF', x''⟩, ⟨hi', η2, hR2, hlike.trans hl2⟩, hμ⟩
        | exit id' =>
          cases hrel
          simp only at hK
          show (if id' = id then Q .normal a' w' else Q (.exit id') a' w')
          split at hK
          · rename_i hid; rw [if_pos hid]; exact hQ _ _ _ ⟨.normal, σ', η', hK, rfl, hR', hlike, hn', hff, rfl⟩
          · rename_i hid; rw [if_neg hid]; exact hQ _ _ _ ⟨.exit id', σ', η', hK, rfl, hR', hlike, hn', hff, rfl⟩
        | ret => cases hrel; exact hQ _ _ _ ⟨.ret, σ', η', hK, rfl, hR', hlike, hn', hff, rfl⟩
        | panic v => cases hrel; exact hQ _ _ _ ⟨.panic v, σ', η', hK, rfl, hR', hlike, hn', hff, hxm⟩
    · refine wpIn_block (ihn H rd _ σ _ h r hrd B hB η a w _ hR hf fun e a' w' hp => ?_)
      obtain ⟨x', σ', η', hK, hrel, hR', hl, hn, hff, hxm⟩ := hp
      cases x' with
      | normal => cases hrel; exact hQ _ _ _ ⟨.normal, σ', η', hK, rfl, hR', hl, hn, hff, rfl⟩
      | exit id' =>
        cases hrel
        simp only at hK
        show (if id' = id then Q .normal a' w' else Q (.exit id') a' w')
        split at hK
        · rename_i hid; rw [if_pos hid]; exact hQ _ _ _ ⟨.normal, σ', η', hK, rfl, hR', hl, hn, hff, rfl⟩
        · rename_i hid; rw [if_neg hid]; exact hQ _ _ _ ⟨.exit id', σ', η', hK, rfl, hR', hl, hn, hff, rfl⟩
      | ret => cases hrel; exact hQ _ _ _ ⟨.ret, σ', η', hK, rfl, hR', hl, hn, hff, rfl⟩
      | panic v => cases hrel; exact hQ _ _ _ ⟨.panic v, σ', η', hK, rfl, hR', hl, hn, hff, hxm⟩
  | loop b =>
    refine wpIn_loopG (α := ULift.{1} ({ m : Nat // m < n + 2 } × St))
      (fun x a w => symC P fx Γ Δ x.down.1.1 H rd (.loop b) x.down.2 K ∧ x.down.2.fresh (ge x.down.2.nx) = true ∧ ∃ η1, Rep B η1 x.down.2 a w ∧ η.like η1 (ge σ.nx) ∧ σ.nx ≤ x.down.2.nx)
      (fun x => x.down.1.1) (x0 := ⟨(⟨n + 1, by omega⟩, σ)⟩) ⟨h, hf, η, hR, η.like_refl _, Nat.le_refl _⟩ ?_
    rintro ⟨⟨⟨m, hmn⟩, σ1⟩⟩ a1 w1 ⟨h1, hf1, η1, hR1, hl1, hn1⟩
    cases m with
    | zero => exact h1.elim
    | succ m =>
      simp only [symC] at h1
      refine ih m (by omega) H rd b σ1 _ h1 r hrd B hB η1 a1 w1 _ hR1 hf1 fun e a' w' hp => ?_
      obtain ⟨x', σ', η', hK, hrel, hR', hl, hn, hff, hxm⟩ := hp
      simp only at hn1 hl hn
      have hlike : η.like η' (ge σ.nx) := hl1.trans (hl.mono (ge_mono hn1))
      have hn' : σ.nx ≤ σ'.nx := Nat.le_trans hn1 hn
      cases x' with
      | normal => cases hrel; exact ⟨⟨(⟨m, by omega⟩, σ')⟩, ⟨hK, hff, η', hR', hlike, hn'⟩, Nat.lt_succ_self m⟩
      | exit id' => cases hrel; exact hQ _ _ _ ⟨.exit id', σ', η', hK, rfl, hR', hlike, hn', hff, rfl⟩
      | ret => cases hrel; exact hQ _ _ _ ⟨.ret, σ', η', hK, rfl, hR', hlike, hn', hff, rfl⟩
      | panic v => cases hrel; exact hQ _ _ _ ⟨.panic v, σ', η', hK, rfl, hR', hlike, hn', hff, hxm⟩
  | region id ops draw =>
    simp only [symC] at h
    cases draw with
    | true =>
      simp only [if_true] at h
      exact wpIn_region_any hm (symDraw_sound hfx hΓ hB h (⟨hR.len, hR.tm, hR.hp.alike rfl rfl rfl rfl, hR.df⟩) hf hQ)
    | false =>
      simp only [Bool.false_eq_true, if_false] at h
      exact wpIn_region (symOps_sound hfx hrd (inlineS_ok hΔ (ihn noHints)) hB (List.range ops.size) σ η a w h hR hf hQ)
  | rangeFunc f ps s b =>
    simp only [symC] at h
    obtain ⟨h0, h⟩ := chk_not.1 h
    have hr0 : r = none := by
      cases r with
      | none => rfl
      | some l => rw [h0] at hrd; cases hrd
    subst hr0
    exact rangeS_ok (ihn noHints) h hB hR hf hQ
  | goto l => exact h.elim
  | refuse y => exact h.elim

end
end Go.Sx
