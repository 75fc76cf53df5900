import Derived.Test.YtmeebemkoakkmaaGreatDoorSxR
set_option linter.all false
/-
  Records of loops over functions; what nobody reaches; a function's results.
-/
noncomputable section
namespace Go.Sx
open Go
section
variable {P : Program}

def CodeOk (P : Program) (GB : Base → Prop) (sC : Bool → Code → St → SK → Prop) : Prop :=
  ∀ (rd : Bool) (c : Code) (σ : St) (K : SK), sC rd c σ K → ∀ (r : Option Nat), r.isSome = rd → ∀ (B : Base), GB B → ∀ (η : Env) (a : Act) (w : World) (Q : Exit → Act → World → Prop), Rep B η σ a w → σ.fresh (ge σ.nx) = true →
    (∀ e a' w', RPost B η σ.nx K e a' w' → Q e a' w') → c.wpIn (FR r) 0 P Q a w

theorem HRep.sub {B : Base} {η : Env} {hp hp' : Hp} {w : World} (h : HRep B η hp w) (hb : ∀ i b, hget hp' i = some b → hget hp i = some b) (hl : ∀ i r, lget hp' i = some r → lget hp i = some r) : HRep B η hp' w :=
  ⟨fun i b hg => h.blk i b (hb i b hg), fun i j b c h1 h2 => h.apart i j b c (hb i b h1) (hb j c h2), fun i b hg => h.mine i b (hb i b hg), fun i r hg => h.loops i r (hl i r hg), fun i r hg => h.lmine i r (hl i r hg),
    fun i j r s h1 h2 => h.lapart i j r s (hl i r h1) (hl j s h2), h.size, h.kept, h.os, h.tape, h.output⟩

theorem hget_filter (n0 : Nat) : ∀ (hp : Hp) (i : Nat), hget (hp.filter fun x => decide (x.1 < n0)) i = if i < n0 then hget hp i else none
  | [], i => by simp [hget]
  | (j, e) :: r, i => by
    by_cases hj : j < n0
    · rw [List.filter_cons_of_pos (by simpa using hj)]
      simp only [hget]
      rw [hget_filter n0 r i]
      by_cases e : j = i
      · subst e; simp [hj]
      · simp [e]
    · rw [List.filter_cons_of_neg (by simpa using hj), hget_filter n0 r i]
      simp only [hget]
      by_cases hi : i < n0
      · have : j ≠ i := by omega
        simp [hi, this]
      · rw [if_neg hi, if_neg hi]
theorem lget_filter (n0 : Nat) : ∀ (hp : Hp) (i : Nat), lget (hp.filter fun x => decide (x.1 < n0)) i = if i < n0 then lget hp i else none
  | [], i => by simp [lget]
  | (j, e) :: r, i => by
    by_cases hj : j < n0
    · rw [List.filter_cons_of_pos (by simpa using hj)]
      simp only [lget]
      rw [lget_filter n0 r i]
      by_cases e : j = i
      · subst e; simp [hj]
      · simp [e]
    · rw [List.filter_cons_of_neg (by simpa using hj), lget_filter n0 r i]
      simp only [lget]
      by_cases hi : i < n0
      · have : j ≠ i := by omega
        simp [hi, this]
      · rw [if_neg hi, if_neg hi]
theorem fresh_filter {p : Nat → Bool} (q : Nat × Ent → Bool) : ∀ {hp : Hp}, Hp.fresh p hp = true → Hp.fresh p (hp.filter q) = true
  | [], _ => rfl
  | (j, e) :: r, h => by
    simp only [Hp.fresh, Bool.and_eq_true, Bool.not_eq_true'] at h
    rw [List.filter_cons]
    split
    · simp only [Hp.fresh, Bool.and_eq_true, Bool.not_eq_true']; exact ⟨h.1, fresh_filter q h.2⟩
    · exact fresh_filter q h.2
theorem HRep.gc {B : Base} {η : Env} {hp : Hp} {w : World} (h : HRep B η hp w) (n0 : Nat) (v : SV) : HRep B η (gcHp n0 v hp) w := by
  unfold gcHp
  simp only
  split
  · refine h.sub (fun i b hg => ?_) (fun i r hg => ?_)
    · rw [hget_filter] at hg; split at hg <;> first | exact hg | cases hg
    · rw [lget_filter] at hg; split at hg <;> first | exact hg | cases hg
  · exact h
theorem fresh_gc {p : Nat → Bool} {hp : Hp} (h : Hp.fresh p hp = true) (n0 : Nat) (v : SV) : Hp.fresh p (gcHp n0 v hp) = true := by
  unfold gcHp
  simp only
  split
  · exact fresh_filter _ h
  · exact h

/-- a record's state turned -/
theorem HRep.lset {B : Base} {η : Env} {hp : Hp} {w : World} {id : Nat} {r r' : LRec} (h : HRep B η hp w) (hl : lget hp id = some r) (hmp : r.mp = false) (h0 : r'.mp = false) (h1 : r'.tm = r.tm) (h2 : r'.ps = r.ps) (h3 : r'.asg = r.asg) (h4 : r'.body = r.body)
    {fn : FuncId} (hw : w.heap[η.adr id]? = some (.loop { state := r.st, pending := r.pend, fn, tmps := (dens η r.tm).toArray, params := r.ps, assign := r.asg, body := r.body, defers := η.cap id })) :
    HRep B η (lset hp id r') (w.putObj (η.adr id) (.loop { state := r'.st, pending := r'.pend, fn, tmps := (dens η r.tm).toArray, params := r.ps, assign := r.asg, body := r.body, defers := η.cap id })) := by
  have hlt := (Array.getElem?_eq_some_iff.1 hw).1
  refine h.putObj hw (fun _ _ _ e => by cases e) (h.lmine id r hl).1 (fun i b hg => ?_) (fun i s hg => ?_)
  · rw [hget_lset] at hg
    split at hg
    · cases hg
    · exact hg
  · rw [lget_lset] at hg
    split at hg
    · rename_i e; subst e
      simp only [Option.some.injEq] at hg; subst hg
      have hrl := h.loops id r hl
      rw [LRec.rep, if_neg (by rw [hmp]; simp)] at hrl
      rw [LRec.rep, if_neg (by rw [h0]; simp)]
      refine ⟨⟨⟨fn, ?_⟩, ?_⟩, r, hl⟩
      · rw [heap_putObj, if_pos rfl, if_pos hlt, h1, h2, h3, h4]
      · rw [heap_putObj, if_neg]
        · exact hrl.2
        · intro e; have := hrl.2; rw [← e, hw] at this; cases this
    · rename_i e
      refine ⟨?_, s, hg⟩
      have hs := h.loops i s hg
      unfold LRec.rep at hs ⊢
      split at hs
      · rename_i hm; rw [if_pos hm]
        exact ⟨hs.1, by rw [heap_putObj, if_neg (h.lapart id i r s hl hg e).1]; exact hs.2⟩
      rename_i hm; rw [if_neg hm]
      obtain ⟨⟨fn', h5⟩, h6⟩ := hs
      refine ⟨⟨fn', ?_⟩, ?_⟩
      · rw [heap_putObj, if_neg (h.lapart id i r s hl hg e).1]; exact h5
      · rw [heap_putObj, if_neg]
        · exact h6
        · intro e; rw [← e, hw] at h6; cases h6

/-- a mark taken -/
theorem HRep.take {B : Base} {η : Env} {hp : Hp} {w : World} {id : Nat} {r : LRec} (h : HRep B η hp w) (hl : lget hp id = some r) (hmp : r.mp = false) :
    (Instr.takeDeferred (η.cap id)).run P w = .ok [] (w.putObj (η.cap id) (.deferred none)) ∧ HRep B η (eset hp id .dead) (w.putObj (η.cap id) (.deferred none)) := by
  have hrl := h.loops id r hl
  rw [LRec.rep, if_neg (by rw [hmp]; simp)] at hrl
  have hD := hrl.2
  refine ⟨run_takeDeferred hD, h.putObj hD (fun _ _ _ e => by cases e) (h.lmine id r hl).2 (fun i b hg => ?_) (fun i s hg => ?_)⟩
  · rw [hget_eset] at hg
    split at hg
    · cases hg
    · exact hg
  · rw [lget_eset] at hg
    split at hg
    · cases hg
    · rename_i e
      refine ⟨?_, s, hg⟩
      have hs := h.loops i s hg
      unfold LRec.rep at hs ⊢
      split at hs
      · rename_i hm; rw [if_pos hm]
        refine ⟨hs.1, ?_⟩
        rw [heap_putObj, if_neg]
        · exact hs.2
        · intro e; have := hs.2; rw [← e, hD] at this; cases this
      rename_i hm; rw [if_neg hm]
      obtain ⟨⟨fn', h5⟩, h6⟩ := hs
      refine ⟨⟨fn', ?_⟩, ?_⟩
      · rw [heap_putObj, if_neg]
        · exact h5
        · intro e; rw [← e, hD] at h5; cases h5
      · rw [heap_putObj, if_neg (h.lapart id i r s hl hg e).2]; exact h6

/-- a loop over a function is entered -/
theorem HRep.newLoop {B : Base} {η : Env} {hp : Hp} {w : World} {k : Nat} {p : Nat → Bool} {r : LRec} {fn : FuncId} (h : HRep B η hp w) (hpk : p k = true) (hf : Hp.fresh p hp = true) (hm : mens p r.tm = false) (hmp : r.mp = false) :
    HRep B (η.set k (w.heap.size + 1) w.heap.size) (Go.Sx.lset hp k r)
      ((w.alloc (.deferred (some []))).alloc (.loop { state := r.st, pending := r.pend, fn, tmps := (dens η r.tm).toArray, params := r.ps, assign := r.asg, body := r.body, defers := w.heap.size })) := by
  have hl := η.like_set k (w.heap.size + 1) w.heap.size hpk
  have hself : (η.set k (w.heap.size + 1) w.heap.size).adr k = w.heap.size + 1 ∧ (η.set k (w.heap.size + 1) w.heap.size).cap k = w.heap.size := by simp [Env.set]
  have hoth : ∀ i, i ≠ k → (η.set k (w.heap.size + 1) w.heap.size).adr i = η.adr i ∧ (η.set k (w.heap.size + 1) w.heap.size).cap i = η.cap i := fun i hi => by simp [Env.set, hi]
  generalize hw1 : (w.alloc (.deferred (some []))).alloc (.loop { state := r.st, pending := r.pend, fn, tmps := (dens η r.tm).toArray, params := r.ps, assign := r.asg, body := r.body, defers := w.heap.size }) = w1
  have hheap : w1.heap = (w.heap.push (.deferred (some []))).push (.loop { state := r.st, pending := r.pend, fn, tmps := (dens η r.tm).toArray, params := r.ps, assign := r.asg, body := r.body, defers := w.heap.size }) := by rw [← hw1]; rfl
  have hold : ∀ j, j < w.heap.size → w1.heap[j]? = w.heap[j]? := fun j hj => by
    rw [hheap, Array.getElem?_push, if_neg (by simp; omega), Array.getElem?_push, if_neg (by omega)]
  have hne : ∀ i (b : Blk), hget hp i = some b → i ≠ k := fun i b hg e => by have := (Hp.fresh_get hf hg).1; rw [e, hpk] at this; cases this
  have hnl : ∀ i s, lget hp i = some s → i ≠ k := fun i s hg e => by have := (Hp.fresh_lget hf hg).1; rw [e, hpk] at this; cases this
  have kb : ∀ i b, hget (Go.Sx.lset hp k r) i = some b → hget hp i = some b ∧ i ≠ k := fun i b hg => by
    rw [hget_lset] at hg
    split at hg
    · cases hg
    · exact ⟨hg, hne i b hg⟩
  have kl : ∀ i s, lget (Go.Sx.lset hp k r) i = some s → (i = k ∧ s = r) ∨ (lget hp i = some s ∧ i ≠ k) := fun i s hg => by
    rw [lget_lset] at hg
    split at hg
    · rename_i e; simp only [Option.some.injEq] at hg; exact .inl ⟨e.symm, hg.symm⟩
    · exact .inr ⟨hg, hnl i s hg⟩
  have lt1 : ∀ i s, lget hp i = some s → η.adr i < w.heap.size ∧ η.cap i < w.heap.size := fun i s hg => by
    have hs := h.loops i s hg
    unfold LRec.rep at hs
    split at hs
    · have := (Array.getElem?_eq_some_iff.1 hs.2).1; exact ⟨this, by rw [hs.1]; exact this⟩
    obtain ⟨⟨fn', h5⟩, h6⟩ := hs
    exact ⟨(Array.getElem?_eq_some_iff.1 h5).1, (Array.getElem?_eq_some_iff.1 h6).1⟩
  refine ⟨fun i b hg => ?_, fun i j b c h1 h2 hij => ?_, fun i b hg hrw => ?_, fun i s hg => ?_, fun i s hg => ?_, fun i j s t h1 h2 hij => ?_, ?_, fun j hj hn => ?_, ?_, ?_, ?_⟩
  · obtain ⟨hg, hi⟩ := kb i b hg
    obtain ⟨hkc, c, T, fr, hc, hfr, hr⟩ := h.blk i b hg
    rw [Blk.rep, (hoth i hi).1, (hoth i hi).2]
    exact ⟨hkc, c, T, fr, (hold _ (Array.getElem?_eq_some_iff.1 hc).1).trans hc, hfr, SO.rep_like hl (Hp.fresh_get hf hg).2 hr⟩
  · obtain ⟨h1, hi⟩ := kb i b h1
    obtain ⟨h2, hj⟩ := kb j c h2
    rw [(hoth i hi).1, (hoth j hj).1]; exact h.apart i j b c h1 h2 hij
  · obtain ⟨hg, hi⟩ := kb i b hg
    rw [(hoth i hi).1]; exact h.mine i b hg hrw
  · rcases kl i s hg with ⟨rfl, rfl⟩ | ⟨hg, hi⟩
    · rw [LRec.rep, if_neg (by rw [hmp]; simp), hself.1, hself.2, dens_like hl _ hm]
      refine ⟨⟨fn, ?_⟩, ?_⟩
      · rw [hheap, Array.getElem?_push, if_pos (by simp)]
      · rw [hheap, Array.getElem?_push, if_neg (by simp), Array.getElem?_push, if_pos rfl]
    · refine LRec.rep_same (LRec.rep_like hl (Hp.fresh_lget hf hg).1 (Hp.fresh_lget hf hg).2 (h.loops i s hg)) fun k' o hk' _ => ?_
      rw [hold k' (Array.getElem?_eq_some_iff.1 hk').1]; exact hk'
  · rcases kl i s hg with ⟨rfl, rfl⟩ | ⟨hg, hi⟩
    · rw [hself.1, hself.2]; have := h.size; exact ⟨.inl (by omega), .inl (by omega)⟩
    · rw [(hoth i hi).1, (hoth i hi).2]; exact h.lmine i s hg
  · rcases kl i s h1 with ⟨rfl, rfl⟩ | ⟨h3, hi⟩ <;> rcases kl j t h2 with ⟨rfl, rfl⟩ | ⟨h4, hj⟩
    · exact absurd rfl hij
    · rw [hself.1, hself.2, (hoth j hj).1, (hoth j hj).2]; have := lt1 j t h4; exact ⟨by omega, by omega⟩
    · rw [hself.1, hself.2, (hoth i hi).1, (hoth i hi).2]; have := lt1 i s h3; exact ⟨by omega, by omega⟩
    · rw [(hoth i hi).1, (hoth i hi).2, (hoth j hj).1, (hoth j hj).2]; exact h.lapart i j s t h3 h4 hij
  · rw [hheap]; simp; have := h.size; omega
  · rw [hold j (by have := h.size; omega)]; exact h.kept j hj hn
  · rw [← hw1]; exact h.os
  · rw [← hw1]; exact h.tape
  · rw [← hw1]; exact h.output

theorem resL_sound {B : Base} {η : Env} {σ : St} {a : Act} {w : World} (hR : Rep B η σ a w) : ∀ {l : List ResultVar} {vs : List SV} {o : List Ob}, resL P σ l = some (vs, o) → (∀ p ∈ o, p) →
    (l.mapM fun r => (match r with
      | .tmp t => pure (a.tmps.getD t undef)
      | .cell x t => do loadVar t (← asAddr (a.tmps.getD x undef)) : Sem Value)).run P w = .ok (dens η vs) w
  | [], vs, o, h, _ => by
    simp only [resL, Option.some.injEq, Prod.mk.injEq] at h; obtain ⟨rfl, rfl⟩ := h
    simp [dens]
  | .tmp t :: r, vs, o, h, ho => by
    simp only [resL] at h
    split at h
    · rename_i vs' o' hr
      simp only [Option.some.injEq, Prod.mk.injEq] at h; obtain ⟨rfl, rfl⟩ := h
      have hev : a.tmps.getD t undef = (σ.ev (.tmp t)).den η := hR.eval (.tmp t)
      have ih := resL_sound hR hr ho
      rw [List.mapM_cons, Sem.run_bind]
      change ((Sem.run P (pure (a.tmps.getD t undef)) w).andThen _) = _
      rw [Sem.run_pure, Result.andThen_ok, Sem.run_bind, ih, hev]
      rfl
    · cases h
  | .cell x t :: r, vs, o, h, ho => by
    simp only [resL] at h
    split at h
    · rename_i e vs' o' hl hr
      simp only [Option.some.injEq, Prod.mk.injEq] at h; obtain ⟨rfl, rfl⟩ := h
      have hev : a.tmps.getD x undef = (σ.ev (.tmp x)).den η := hR.eval (.tmp x)
      have hsat : (loadS P t (σ.ev (.tmp x)) (hget σ.hp)).sat e := by rw [hl]; exact ⟨rfl, fun p hp => ho p (List.mem_append.2 (.inl hp))⟩
      obtain ⟨_, h2⟩ := loadS_sound hsat hR.hp
      have hptr : ∃ id off, σ.ev (.tmp x) = .ptr id off := by
        unfold loadS at hl
        split at hl
        · rename_i id off _ _ he _ _; exact ⟨id, off, he⟩
        · cases hl
      obtain ⟨id, off, he⟩ := hptr
      have ih := resL_sound hR hr (fun p hp => ho p (List.mem_append.2 (.inr hp)))
      rw [he] at h2
      have h3 : (loadVar t ⟨η.adr id, off, none⟩).run P w = .ok (e.val.den η) w := by
        simpa [Instr.loadAt, SV.den, Instr.sureAddr] using h2
      rw [List.mapM_cons, Sem.run_bind]
      change ((Sem.run P (do loadVar t (← asAddr (a.tmps.getD x undef)) : Sem Value) w).andThen _) = _
      rw [hev, he, Sem.run_bind]
      change (((Sem.run P (pure (⟨η.adr id, off, none⟩ : Addr)) w).andThen _).andThen _) = _
      rw [Sem.run_pure, Result.andThen_ok, h3, Result.andThen_ok, Sem.run_bind, ih]
      rfl
    · cases h

theorem results_sound {B : Base} {η : Env} {σ : St} {a : Act} {w : World} {fn : Func} {vs : List SV} {o : List Ob} (hR : Rep B η σ a w) (h : resL P σ fn.results.toList = some (vs, o)) (ho : ∀ p ∈ o, p) :
    (results fn a.tmps).run P w = .ok ((resV vs).den η) w := by
  unfold results
  rw [Sem.run_bind, Array.mapM_eq_mapM_toList, Sem.run_map]
  have := resL_sound (P := P) hR h ho
  erw [this]
  simp only [Result.andThen_ok, Sem.run_pure]
  congr 1
  cases vs with
  | nil => rfl
  | cons v vs => cases vs with
    | nil => simp [resV, dens]
    | cons u us => simp [resV, dens, SV.den]


theorem enterS_rep {B : Base} {η : Env} {hp : Hp} {w : World} {fn : Func} {vs : List SV} {nx : Nat} (hh : HRep B η hp w) :
    Rep B η (enterS fn vs hp nx) { tmps := (dens η vs).toArray ++ Array.replicate (fn.ntmps - (dens η vs).toArray.size) undef, defers := [] } w := by
  refine ⟨by simp [enterS, dens_length], fun t v ht => ?_, hh, rfl⟩
  simp only [enterS] at ht
  have : (dens η vs).toArray ++ Array.replicate (fn.ntmps - (dens η vs).toArray.size) undef = (dens η (vs ++ List.replicate (fn.ntmps - vs.length) undefS)).toArray := by
    apply Array.ext'
    simp [dens_eq, undefS_den]
  rw [this]
  simp [dens_get?, ht]
theorem mens_replicate {p : Nat → Bool} {v : SV} (h : v.men p = false) : ∀ n, mens p (List.replicate n v) = false
  | 0 => rfl
  | n + 1 => by simp [List.replicate_succ, mens, h, mens_replicate h n]
theorem enterS_fresh {p : Nat → Bool} {fn : Func} {vs : List SV} {hp : Hp} {nx : Nat} (h1 : mens p vs = false) (h2 : Hp.fresh p hp = true) : (enterS fn vs hp nx).fresh p = true := by
  rw [fresh_iff]
  refine ⟨?_, h2, rfl⟩
  simp only [enterS]
  rw [mens_append', h1, Bool.false_or]
  exact mens_replicate (v := undefS) rfl _
end
end Go.Sx
