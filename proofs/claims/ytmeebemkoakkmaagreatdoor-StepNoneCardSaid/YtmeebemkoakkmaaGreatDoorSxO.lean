import Derived.Test.YtmeebemkoakkmaaGreatDoorSxN
set_option linter.all false
noncomputable section
namespace Go.Sx
open Go

def wantY (ops : Array Oper) (σ : St) (o : Oper) : Prop := wantS ops σ o = .yes ∨ ∃ b w, wantS ops σ o = .ask b w ∧ b = w
def wantN (ops : Array Oper) (σ : St) (o : Oper) : Prop := wantS ops σ o = .no ∨ ∃ b w, wantS ops σ o = .ask b w ∧ ¬ b = w

/-- an effect, its value told otherwise -/
def told (e0 e : Eff) : Prop := ∃ u, e = { e0 with val := u } ∧ (∀ η, u.den η = e0.val.den η) ∧ ∀ p, u.men p = e0.val.men p
def ranOK (P : Program) (fx : SV → SV) (Γ : Ctab) (ops : Array Oper) (k0 : Nat) (σ : St) (i : Nat) (r : SR) : Prop :=
  ∃ o, ops[i]? = some o ∧
    ((wantY ops σ o ∧ (∃ e0, (opX P fx Γ σ.ev (hget σ.hp) (k0 + 1048576 * i) o.op).sat e0 ∧ told e0 r.e) ∧ r.need = needD P Γ σ.ev (hget σ.hp) o.op ∧ r.fr = isFail (pureOp P σ.ev o.op)) ∨ (wantN ops σ o ∧ r = SR.skip))

theorem eOf_append {E F : List SR} {j : Nat} (h : j < E.length) : eOf (E ++ F) j = eOf E j := by
  unfold eOf; rw [List.getElem?_append_left h]
theorem stL_ext {ops : Array Oper} {E F : List SR} : ∀ (l : List Nat) (σ : St), (∀ j ∈ l, j < E.length) → stL ops (E ++ F) σ l = stL ops E σ l
  | [], _, _ => rfl
  | i :: l, σ, h => by
    have h1 : stL ops (E ++ F) σ (i :: l) = stL ops (E ++ F) (σ.app (dstOf ops i) (eOf (E ++ F) i)) l := rfl
    have h2 : stL ops E σ (i :: l) = stL ops E (σ.app (dstOf ops i) (eOf E i)) l := rfl
    rw [h1, h2, eOf_append (h i (List.mem_cons_self ..))]
    exact stL_ext l _ fun j hj => h j (List.mem_cons_of_mem _ hj)

theorem symD_run {P : Program} {fx : SV → SV} {Γ : Ctab} {ops : Array Oper} {k0 : Nat} {K : List SR → St → Prop} {σ0 : St} : ∀ (m i : Nat) (E : List SR) (σ : St), E.length = i → σ = stL ops E σ0 (List.range i) →
    symD P fx Γ ops k0 K (List.range' i m) E σ → ∃ F, F.length = m ∧ (∀ j, i ≤ j → j < i + m → ranOK P fx Γ ops k0 (stL ops (E ++ F) σ0 (List.range j)) j (((E ++ F)[j]?).getD SR.skip)) ∧
      K (E ++ F) (stL ops (E ++ F) σ0 (List.range (i + m)))
  | 0, i, E, σ, hE, hσ, h => ⟨[], rfl, fun j h1 h2 => by omega, by simpa [symD, ← hσ] using h⟩
  | m + 1, i, E, σ, hE, hσ, h => by
    rw [List.range'_succ] at h
    simp only [symD] at h
    cases ho : ops[i]? with
    | none => rw [ho] at h; exact h.elim
    | some o =>
      rw [ho] at h
      simp only at h
      have hdst : dstOf ops i = o.dst := by simp [dstOf, ho]
      have fin : ∀ r : SR, ranOK P fx Γ ops k0 σ i r → symD P fx Γ ops k0 K (List.range' (i + 1) m) (E ++ [r]) (σ.app o.dst r.e) →
          ∃ F, F.length = m + 1 ∧ (∀ j, i ≤ j → j < i + (m + 1) → ranOK P fx Γ ops k0 (stL ops (E ++ F) σ0 (List.range j)) j (((E ++ F)[j]?).getD SR.skip)) ∧ K (E ++ F) (stL ops (E ++ F) σ0 (List.range (i + (m + 1)))) := by
        intro r hr hs
        have hσ' : σ.app o.dst r.e = stL ops (E ++ [r]) σ0 (List.range (i + 1)) := by
          rw [List.range_succ, stL_snoc, stL_ext _ _ (fun j hj => by rw [List.mem_range] at hj; omega), ← hσ, hdst]
          congr 1
          simp [eOf, ← hE]
        obtain ⟨F, h1, h2, h3⟩ := symD_run m (i + 1) (E ++ [r]) _ (by simp [hE]) hσ' hs
        refine ⟨r :: F, by simp [h1], fun j hj1 hj2 => ?_, ?_⟩
        · by_cases hji : j = i
          · subst hji
            have : (((E ++ r :: F)[j]?).getD SR.skip) = r := by rw [List.getElem?_append_right (by omega)]; simp [hE]
            rw [this, stL_ext _ _ (fun k hk => by rw [List.mem_range] at hk; omega), ← hσ]
            exact hr
          · have := h2 j (by omega) (by omega)
            simpa [List.append_assoc] using this
        · have : i + 1 + m = i + (m + 1) := by omega
          rw [this] at h3
          simpa [List.append_assoc] using h3
      cases hw : wantS ops σ o with
      | yes =>
        rw [hw] at h
        obtain ⟨e, hs, hn⟩ := Res.all_sat h
        obtain ⟨u, hn, hud, hum⟩ := splitV_elim hn
        exact fin ⟨{ e with val := u }, needD P Γ σ.ev (hget σ.hp) o.op, true, isFail (pureOp P σ.ev o.op)⟩ ⟨o, ho, .inl ⟨.inl hw, ⟨e, hs, u, rfl, hud, hum⟩, rfl, rfl⟩⟩ hn
      | no => rw [hw] at h; exact fin SR.skip ⟨o, ho, .inr ⟨.inl hw, rfl⟩⟩ h
      | ask b want =>
        rw [hw] at h
        by_cases hb : b = want
        · obtain ⟨e, hs, hn⟩ := Res.all_sat (h.1 hb)
          obtain ⟨u, hn, hud, hum⟩ := splitV_elim hn
          exact fin ⟨{ e with val := u }, needD P Γ σ.ev (hget σ.hp) o.op, true, isFail (pureOp P σ.ev o.op)⟩ ⟨o, ho, .inl ⟨.inr ⟨b, want, hw, hb⟩, ⟨e, hs, u, rfl, hud, hum⟩, rfl, rfl⟩⟩ hn
        · exact fin SR.skip ⟨o, ho, .inr ⟨.inr ⟨b, want, hw, hb⟩, rfl⟩⟩ (h.2 hb)
      | bad => rw [hw] at h; exact h.elim

/-! what an operation does, in whatever state -/
theorem rng_self (k : Nat) : rng k k = true := by simp [rng]
def CtabOk (P : Program) (GB : Base → Prop) (Γ : Ctab) : Prop := ∀ f C, Γ f = some C → C.ok P GB f

theorem opD_wp {P : Program} {Γ : Ctab} {GB : Base → Prop} (hΓ : CtabOk P GB Γ) {r : Option Nat} {B : Base} (hB : GB B) {η : Env} {σ : St} {a : Act} {w : World} {o : Oper} {key : Nat} {e : Eff} {N : Act → World → Prop} {Q : Exit → Act → World → Prop}
    (hs : (opD P Γ σ.ev (hget σ.hp) key o.op).sat e) (hR : Rep B η σ a w) (hf : isFail (pureOp P σ.ev o.op) = true → σ.fresh (rng key) = true)
    (hN : ∀ η' a' w', Rep B η' (σ.app o.dst e) a' w' → η.like η' (rng key) → N a' w') : o.wpIn (FR r) 0 P a w N Q := by
  have hev := hR.evalF
  unfold opD at hs
  split at hs
  · rename_i hp
    obtain ⟨hf1, hf2, hf3⟩ := fresh_tm (hf (by rw [hp]; rfl))
    split at hs
    · rename_i f vs hc
      split at hs
      · rename_i C hC
        have := hΓ f C hC B hB η σ.hp w key vs e (rng key) (fun _ h => h) hs hR.hp hf2 (calleeS_men hc fun x => fresh_ev hf1 x).2
        refine Oper.wpIn_of (.inr fun c e => by rw [e] at hc; cases hc) ?_
        rw [hev, calleeS_sound hc]
        refine CallsN.upon this (fun v w'' hr => ?_) (fun ch w'' hr => ?_) (fun w'' hr => ?_)
        · obtain ⟨η', hv, hh, hl⟩ := hr
          cases hv
          exact hN _ _ _ (hR.step hf1 hf3 hl hh o.dst e.val) hl
        · obtain ⟨η', hv, hh, hl⟩ := hr; cases hv
        · obtain ⟨η', hv, hh, hl⟩ := hr; cases hv
      · exact hs.elim
    · exact hs.elim
    · obtain ⟨n, w', η', h1, h2, h3, h4⟩ := memOp_sound (p := rng key) hs hR.hp (rng_self _) hf2 (fun x _ => fresh_ev hf1 x)
      refine Oper.wpIn_of (.inr (mem_noDefer hs)) ?_
      rw [hev, h1]
      rcases h2 with rfl | ⟨rfl, hu⟩
      · exact hN _ _ _ (hR.step hf1 hf3 h4 h3 o.dst e.val) h4
      · have := hN _ _ _ (hR.step (nx' := σ.nx) hf1 hf3 h4 h3 o.dst e.val) h4
        rw [hu] at this
        exact this
  · obtain ⟨h1, h2⟩ := pureOp_sound (η := η) (w := w) hs
    refine Oper.wpIn_of (.inr (pure_noDefer hs)) ?_
    rw [hev, h2]
    simp only [Oper.uponIn]
    refine hN η _ _ ?_ (η.like_refl _)
    have := hR.put o.dst e.val
    unfold St.app
    rw [h1]
    exact this

/-- the frame behind an effect whose value is told otherwise -/
theorem Rep.told {B : Base} {η : Env} {σ : St} {a : Act} {w : World} {d : Option Tmp} {e0 : Eff} {u : SV} (hR' : Rep B η (σ.app d e0) a w) (hu : ∀ η, u.den η = e0.val.den η) : Rep B η (σ.app d { e0 with val := u }) a w := by
  refine ⟨?_, fun t v ht => ?_, hR'.hp, hR'.df⟩
  · have := hR'.len; cases hd : d <;> rw [hd] at this <;> simpa [St.app] using this
  · cases hd : d with
    | none => rw [hd] at ht; have := hR'.tm t v; rw [hd] at this; exact this ht
    | some d =>
      rw [hd] at ht
      simp only [St.app] at ht
      rw [List.setN_eq, List.getElem?_set] at ht
      have h1 := hR'.tm t
      rw [hd] at h1
      simp only [St.app, List.setN_eq] at h1
      by_cases hdt : d = t
      · subst hdt
        simp only [if_true] at ht
        split at ht
        · rename_i hlt
          simp only [Option.some.injEq] at ht; subst ht
          rw [hu]
          exact h1 e0.val (by rw [List.getElem?_set]; simp [hlt])
        · cases ht
      · simp only [hdt, if_false] at ht
        exact h1 v (by rw [List.getElem?_set]; simp [hdt, ht])
theorem opX_wp {P : Program} {fx : SV → SV} (hfx : FixOk fx) {Γ : Ctab} {GB : Base → Prop} (hΓ : CtabOk P GB Γ) {r : Option Nat} {B : Base} (hB : GB B) {η : Env} {σ : St} {a : Act} {w : World} {o : Oper} {key : Nat} {e : Eff} {N : Act → World → Prop} {Q : Exit → Act → World → Prop}
    (hs : (opX P fx Γ σ.ev (hget σ.hp) key o.op).sat e) (hR : Rep B η σ a w) (hf : isFail (pureOp P σ.ev o.op) = true → σ.fresh (rng key) = true)
    (hN : ∀ η' a' w', Rep B η' (σ.app o.dst e) a' w' → η.like η' (rng key) → N a' w') : o.wpIn (FR r) 0 P a w N Q := by
  obtain ⟨e0, hs0, rfl⟩ := Res.mapV_sat hs
  refine opD_wp hΓ hB hs0 hR hf fun η' a' w' hR' hl => hN η' a' w' ?_ hl
  refine ⟨?_, fun t v ht => ?_, hR'.hp, hR'.df⟩
  · have := hR'.len; cases hd : o.dst <;> rw [hd] at this <;> simpa [St.app] using this
  · cases hd : o.dst with
    | none => rw [hd] at ht; have := hR'.tm t v; rw [hd] at this; exact this ht
    | some d =>
      rw [hd] at ht
      simp only [St.app] at ht
      rw [List.setN_eq, List.getElem?_set] at ht
      have h1 := hR'.tm t
      rw [hd] at h1
      simp only [St.app, List.setN_eq] at h1
      by_cases hdt : d = t
      · subst hdt
        simp only [if_true] at ht
        split at ht
        · rename_i hlt
          simp only [Option.some.injEq] at ht; subst ht
          rw [hfx.den]
          exact h1 e0.val (by rw [List.getElem?_set]; simp [hlt])
        · cases ht
      · simp only [hdt, if_false] at ht
        exact h1 v (by rw [List.getElem?_set]; simp [hdt, ht])
theorem app_fresh {p : Nat → Bool} {σ : St} {d : Option Tmp} {e : Eff} (h : σ.fresh p = true) (he : e.fresh p = true) : (σ.app d e).fresh p = true := by
  simp only [Eff.fresh, Bool.and_eq_true, Bool.not_eq_true'] at he
  exact put_fresh h he.1 d _ _ (hsets_fresh (fresh_tm h).2.1 he.2)
theorem stL_fresh {p : Nat → Bool} {ops : Array Oper} {E : List SR} : ∀ (l : List Nat) (σ : St), σ.fresh p = true → (∀ i ∈ l, (eOf E i).fresh p = true) → (stL ops E σ l).fresh p = true
  | [], _, h, _ => h
  | i :: l, _, h, he => stL_fresh l _ (app_fresh h (he i (List.mem_cons_self ..))) fun j hj => he j (List.mem_cons_of_mem _ hj)

theorem Rep.alike {B : Base} {η : Env} {σ σ' : St} {a : Act} {w : World} (h : Rep B η σ a w) (hlen : σ'.tm.length = σ.tm.length) (ht : ∀ t : Nat, σ'.tm[t]? = σ.tm[t]?) (hh : ∀ j, hget σ'.hp j = hget σ.hp j) (hll : ∀ j, lget σ'.hp j = lget σ.hp j) (hd : σ'.df = σ.df) : Rep B η σ' a w :=
  ⟨by rw [hlen]; exact h.len, fun t v hv => h.tm t v (by rw [← ht]; exact hv),
    ⟨fun i b hg => h.hp.blk i b (by rw [← hh]; exact hg), fun i j b c h1 h2 => h.hp.apart i j b c (by rw [← hh]; exact h1) (by rw [← hh]; exact h2), fun i b hg => h.hp.mine i b (by rw [← hh]; exact hg),
      fun i r hg => h.hp.loops i r (by rw [← hll]; exact hg), fun i r hg => h.hp.lmine i r (by rw [← hll]; exact hg), fun i j r s h1 h2 => h.hp.lapart i j r s (by rw [← hll]; exact h1) (by rw [← hll]; exact h2),
      h.hp.size, h.hp.kept, h.hp.os, h.hp.tape, h.hp.output⟩, by rw [hd]; exact h.df⟩
theorem lget_hsets : ∀ (s : List (Nat × Option Blk)) (h : Hp) (j : Nat), lget (hsets h s) j = if (s.map (·.1)).contains j = true then none else lget h j
  | [], h, j => rfl
  | (i, b) :: r, h, j => by
    rw [hsets, lget_hsets r, lget_hset]
    rw [List.map_cons, List.contains_cons]
    by_cases hi : i = j
    · subst hi; simp
    · have : (j == i) = false := by simpa using Ne.symm hi
      rw [this, Bool.false_or]; simp [hi]
theorem stL_lget {ops : Array Oper} {E : List SR} (j : Nat) : ∀ (l : List Nat) (σ : St), lget (stL ops E σ l).hp j = if l.any (wH E j) = true then none else lget σ.hp j
  | [], σ => rfl
  | i :: l, σ => by
    have : stL ops E σ (i :: l) = stL ops E (σ.app (dstOf ops i) (eOf E i)) l := rfl
    rw [this, stL_lget j l]
    have h2 : lget (σ.app (dstOf ops i) (eOf E i)).hp j = if wH E j i = true then none else lget σ.hp j := lget_hsets ..
    rw [h2]
    cases h3 : wH E j i <;> cases h4 : l.any (wH E j) <;> simp [h3, h4]
theorem stL_df {ops : Array Oper} {E : List SR} : ∀ (l : List Nat) (σ : St), (stL ops E σ l).df = σ.df
  | [], σ => rfl
  | i :: l, σ => stL_df l (σ.app (dstOf ops i) (eOf E i))
theorem stL_len {ops : Array Oper} {E : List SR} : ∀ (l : List Nat) (σ : St), (stL ops E σ l).tm.length = σ.tm.length
  | [], _ => rfl
  | i :: l, σ => by
    have : stL ops E σ (i :: l) = stL ops E (σ.app (dstOf ops i) (eOf E i)) l := rfl
    rw [this, stL_len l]
    unfold St.app
    cases dstOf ops i <;> simp
theorem stL_nx {ops : Array Oper} {E : List SR} : ∀ (l : List Nat) (σ : St), (stL ops E σ l).nx = σ.nx
  | [], _ => rfl
  | i :: l, σ => by
    have : stL ops E σ (i :: l) = stL ops E (σ.app (dstOf ops i) (eOf E i)) l := rfl
    rw [this, stL_nx l]; rfl

theorem ancs_len (ops : Array Oper) : ∀ n, (ancs ops n).length = n
  | 0 => rfl
  | n + 1 => by simp [ancs, ancs_len ops n]
theorem ancs_get (ops : Array Oper) : ∀ n i, i < n → anc (ancs ops n) i = uni (depsOf ops i ++ (depsOf ops i).flatMap fun j => (ancs ops i).getD j []) []
  | n + 1, i, h => by
    unfold anc
    simp only [ancs]
    by_cases hi : i = n
    · subst hi
      rw [List.getD_eq_getElem?_getD, List.getElem?_append_right (by rw [ancs_len]; omega)]
      simp [ancs_len]
    · rw [List.getD_eq_getElem?_getD, List.getElem?_append_left (by rw [ancs_len]; omega), ← List.getD_eq_getElem?_getD]
      exact ancs_get ops n i (by omega)
theorem ancs_prefix (ops : Array Oper) : ∀ n m j, j < m → m ≤ n → (ancs ops n).getD j [] = (ancs ops m).getD j []
  | 0, m, j, h1, h2 => by omega
  | n + 1, m, j, h1, h2 => by
    by_cases hm : m = n + 1
    · subst hm; rfl
    · simp only [ancs]
      rw [List.getD_eq_getElem?_getD, List.getElem?_append_left (by rw [ancs_len]; omega), ← List.getD_eq_getElem?_getD]
      exact ancs_prefix ops n m j h1 (by omega)
end Go.Sx
