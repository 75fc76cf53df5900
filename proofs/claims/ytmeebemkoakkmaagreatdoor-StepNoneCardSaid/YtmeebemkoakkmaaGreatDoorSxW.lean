import Derived.Test.YtmeebemkoakkmaaGreatDoorSxV
set_option linter.all false
/-
  Functions entered; rounds; loops over functions.
-/
noncomputable section
namespace Go.Sx
open Go
section
variable {P : Program} {Γ : Ctab}

theorem leaves_clo {sC : Bool → Code → St → SK → Prop} {GB : Base → Prop} (hC : CodeOk P GB sC) {B : Base} (hB : GB B) {η0 η : Env} {nx0 n0 : Nat} {fn : Func} {K : CExit → Hp → Nat → Prop} {f : FuncId} {caps : List SV} {df : List Dfr} {pv : SV} {σ : St} {a : Act} {w : World}
    (hdf : σ.df = .clo f caps :: df) (h : dcloS P sC f caps pv σ (retS P fn n0 K df)) (hR : Rep B η σ a w) (hf : σ.fresh (ge σ.nx) = true)
    (hpm : pv.men (ge σ.nx) = false) {u : FrameMode} (hu : (u = .returning ∧ pv = .nili) ∨ u = .panicking [{ v := pv.den η, recovered := false }]) (hl : η0.like η (ge nx0)) (hn : nx0 ≤ σ.nx) :
    LeavesInM Fence.wide 0 P fn a.tmps (CPost B η0 nx0 K) a.defers u w := by
  obtain ⟨hf1, hf2, hf3⟩ := fresh_tm hf
  rw [hdf] at hf3
  simp only [dmens, Bool.or_eq_false_iff] at hf3
  obtain ⟨hrun, hcall⟩ := dcloS_sound hC hB h hR hf hf3.1 hpm hu
  rw [hR.df, hdf]
  refine ⟨by rcases hu with ⟨rfl, _⟩ | rfl <;> simp, .inr ⟨(fun hd => by cases hd), _, _, f, (dens η caps).toArray, rfl, ?_, fun _ _ => trivial, ?_⟩⟩
  · have : (invoke (.fn (.func f) (dens η caps).toArray) #[]) = callFunc f (#[] ++ (dens η caps).toArray) := rfl
    show (invoke (.fn (.func f) (dens η caps).toArray) #[]).run P w = _
    rw [this]; simpa using hrun
  · refine ⟨trivial, fun c cs hc hroom => ?_⟩
    obtain ⟨e, u', w', fr, hr, rest⟩ := hcall.2 c cs hc hroom
    refine ⟨e, u', w', fr, ?_, rest⟩
    obtain ⟨⟨v, rfl⟩, hset, hp', nx', η', hk, hR', hl', hn', hf'⟩ := hr
    simp only
    rw [hset]
    have hdl : df.map (Dfr.den η') = df.map (Dfr.den η) := dmens_like hl' df hf3.2
    rw [← hdl]
    exact retS_sound hk hR' hf' (dmens_mono (ge_mono hn') hf3.2) (hl.trans (hl'.mono (ge_mono hn))) (Nat.le_trans hn hn')

theorem endS_sound {sC : Bool → Code → St → SK → Prop} {GB : Base → Prop} (hC : CodeOk P GB sC) {B : Base} (hB : GB B) {η0 : Env} {nx0 n0 : Nat} {fn : Func} {K : CExit → Hp → Nat → Prop} {e : Exit} {a : Act} {w : World} (h : RPost B η0 nx0 (endS P sC fn n0 K) e a w) :
    bodyPostM Fence.wide 0 P fn (CPost B η0 nx0 K) e a w := by
  obtain ⟨x, σ, η, hK, hrel, hR, hl, hn, hf, hxm⟩ := h
  obtain ⟨hf1, hf2, hf3⟩ := fresh_tm hf
  have hret : (match σ.df with | .clo f caps :: df => dcloS P sC f caps .nili σ (retS P fn n0 K df) | df => retS P fn n0 K df σ) → LeavesInM Fence.wide 0 P fn a.tmps (CPost B η0 nx0 K) a.defers .returning w := fun hK => by
    split at hK
    · rename_i f caps df hdf
      exact leaves_clo hC hB hdf hK hR hf rfl (.inl ⟨rfl, rfl⟩) hl hn
    · rename_i hno
      rw [hR.df]
      exact retS_sound hK hR hf hf3 hl hn
  cases x with
  | normal => cases hrel; exact hret hK
  | ret => cases hrel; exact hret hK
  | panic v =>
    cases hrel
    show LeavesInM Fence.wide 0 P fn a.tmps (CPost B η0 nx0 K) a.defers (.panicking [{ v := v.den η, recovered := false }]) w
    simp only [endS] at hK
    split at hK
    · rename_i f caps df hdf
      exact leaves_clo hC hB hdf hK hR hf hxm (.inr rfl) hl hn
    · rename_i hno
      split at hK
      · rename_i hp hdm
        obtain ⟨w', h1, h2⟩ := leave_marks (P := P) hdm hR.hp
        rw [hR.df]
        refine h2 fn a.tmps _ _ (by simp) ?_
        exact ⟨.panic v, hp, σ.nx, η, hK, rfl, h1, hl, hn, fresh_marks hdm hf2 hf3, hxm⟩
      · exact hK.elim
  | exit id => exact hK.elim

theorem enterC_ok {sC : Bool → Code → St → SK → Prop} {GB : Base → Prop} (hC : CodeOk P GB sC) {f : FuncId} {vs : List SV} {hp : Hp} {nx : Nat} {K : CExit → Hp → Nat → Prop} (h : enterC P sC f vs hp nx K) {B : Base} (hB : GB B) {η : Env} {w : World} (hR : HRep B η hp w) (hf : Hp.fresh (ge nx) hp = true)
    (hm : mens (ge nx) vs = false) : (callFunc f (dens η vs).toArray).run P w = .ok (.enter f (dens η vs).toArray) w ∧ CallsIn Fence.wide 0 P f (dens η vs).toArray w (CPost B η nx K) := by
  unfold enterC at h
  split at h
  · rename_i fn hfn
    split at h
    · rename_i c hc
      obtain ⟨hname, h⟩ := chk_not.1 h
      refine ⟨?_, ?_⟩
      · unfold callFunc
        simp only [Sem.run_bind, run_program, Result.andThen_ok, hfn, hname, Bool.false_eq_true, if_false, hc, Option.isNone_some, Sem.run_pure]
      · refine callsIn_of_wp_marks hfn hc trivial ?_ rfl
        exact hC false c _ _ h none rfl B hB η _ w _ (enterS_rep hR) (enterS_fresh hm hf) fun e a' w' hp' => endS_sound hC hB hp'
    · exact h.elim
  · exact h.elim

theorem setPs_den (η : Env) : ∀ (ps : List Tmp) (vs : List SV) (tm : List SV), vs.length = ps.length →
    ((ps.zip (dens η vs)).foldl (fun (t : Array Value) (x : Tmp × Value) => t.setIfInBounds x.1 x.2) (dens η tm).toArray) = (dens η (setPs tm ps vs)).toArray
  | [], [], tm, _ => rfl
  | p :: ps, v :: vs, tm, h => by
    simp only [dens, List.zip_cons_cons, List.foldl_cons, setPs]
    rw [← setPs_den η ps vs (tm.setN p v) (by simpa using h), List.setN_eq, dens_set']
    congr 1
    apply Array.ext'
    simp
  | [], _ :: _, _, h => by cases h
  | _ :: _, [], _, h => by cases h
theorem setPs_men {p : Nat → Bool} : ∀ (ps : List Tmp) (vs tm : List SV), mens p tm = false → mens p vs = false → mens p (setPs tm ps vs) = false
  | q :: ps, v :: vs, tm, h1, h2 => by
    simp only [mens, Bool.or_eq_false_iff] at h2
    exact setPs_men ps vs _ (by rw [List.setN_eq]; exact mens_set h2.1 h1) h2.2
  | [], _, tm, h1, _ => by simpa [setPs] using h1
  | _ :: _, [], tm, h1, _ => by simpa [setPs] using h1

theorem fresh_lset {p : Nat → Bool} {hp : Hp} {id : Nat} {r r' : LRec} (h : Hp.fresh p hp = true) (hl : lget hp id = some r) (ht : r'.tm = r.tm) : Hp.fresh p (lset hp id r') = true :=
  Hp.fresh_eset (e := .loop r') (Hp.fresh_lget h hl).1 (by show mens p r'.tm = false; rw [ht]; exact (Hp.fresh_lget h hl).2) h

theorem roundS_ok {sC : Bool → Code → St → SK → Prop} {GB : Base → Prop} (hC : CodeOk P GB sC) {id : Nat} {vs : List SV} {hp : Hp} {nx : Nat} {K : CExit → Hp → Nat → Prop} (h : roundS sC id vs hp nx K) {B : Base} (hB : GB B) {η : Env} {w : World} (hR : HRep B η hp w) (hf : Hp.fresh (ge nx) hp = true)
    (hm : mens (ge nx) vs = false) : CallsN P (CPost B η nx K) ((Instr.yield (η.adr id) (dens η vs).toArray).run P w) := by
  unfold roundS at h
  split at h
  · exact h.elim
  · rename_i r hl
    obtain ⟨hmp, h⟩ := chk_not.1 h
    obtain ⟨hst, h⟩ := chk_iff.1 h
    obtain ⟨hlen, h⟩ := chk_iff.1 h
    replace hst := of_decide_eq_true hst
    replace hlen := of_decide_eq_true hlen
    have hrl := hR.loops id r hl
    rw [LRec.rep, if_neg (by rw [hmp]; simp)] at hrl
    obtain ⟨⟨fn, hrec⟩, _⟩ := hrl
    have hy := run_yield (P := P) (args := (dens η vs).toArray) hrec (by simp [dens_length, hlen])
    rw [hy]
    simp only [CallsN]
    refine roundIn_of_wpIn trivial ?_
    have htm : (Array.zip r.ps (dens η vs).toArray).foldl (fun tmps (x : Tmp × Value) => tmps.setIfInBounds x.1 x.2) (dens η r.tm).toArray = (dens η (setPs r.tm r.ps.toList vs)).toArray := by
      rw [← setPs_den η r.ps.toList vs r.tm (by simpa using hlen), ← Array.foldl_toList]
      simp
    have hR0 : Rep B η { tm := setPs r.tm r.ps.toList vs, hp := hp, nx := nx, df := [] } { tmps := (Array.zip r.ps (dens η vs).toArray).foldl (fun tmps (x : Tmp × Value) => tmps.setIfInBounds x.1 x.2) (dens η r.tm).toArray, defers := [] } w := by
      rw [htm]
      exact ⟨by simp [dens_length], fun t v ht => by simp [dens_get?, ht], hR, rfl⟩
    have hf0 : St.fresh (ge nx) { tm := setPs r.tm r.ps.toList vs, hp := hp, nx := nx, df := [] } = true := fresh_iff.2 ⟨setPs_men _ _ _ (Hp.fresh_lget hf hl).2 hm, hf, rfl⟩
    refine hC true r.asg _ _ h (some (η.adr id)) rfl B hB η _ w _ hR0 hf0 fun e a1 w1 hp1 => ?_
    obtain ⟨x, σ1, η1, hK, hrel, hR1, hl1, hn1, hff1, _⟩ := hp1
    cases x with
    | ret => exact hK.elim
    | exit k => exact hK.elim
    | panic v => exact hK.elim
    | normal =>
      cases hrel
      have hn1' : nx ≤ σ1.nx := hn1
      have hl1' : η.like η1 (ge nx) := hl1
      have hadr : η1.adr id = η.adr id := (hl1' id (Hp.fresh_lget hf hl).1).1
      simp only at hK
      split at hK
      · exact hK.elim
      · rename_i r1 hlr1
        obtain ⟨hmp1, hK⟩ := chk_not.1 hK
        obtain ⟨hst1, hK⟩ := chk_iff.1 hK
        replace hst1 := of_decide_eq_true hst1
        have hrl1 := hR1.hp.loops id r1 hlr1
        rw [LRec.rep, if_neg (by rw [hmp1]; simp)] at hrl1
        obtain ⟨⟨fn1, hrec1⟩, _⟩ := hrl1
        have hbr := run_beginRound (P := P) hrec1 hst1
        rw [hadr] at hbr
        refine ⟨_, hbr, ?_⟩
        have hR1b := hR1.hp.lset (r' := { r1 with st := .busy }) hlr1 hmp1 hmp1 rfl rfl rfl rfl hrec1
        rw [hadr] at hR1b
        have hf1b := fresh_lset (r' := { r1 with st := .busy }) (fresh_tm hff1).2.1 hlr1 rfl
        refine hC true r.body _ _ hK (some (η.adr id)) rfl B hB η1 a1 _ _ ⟨hR1.len, hR1.tm, hR1b, hR1.df⟩ (fresh_iff.2 ⟨(fresh_tm hff1).1, hf1b, (fresh_tm hff1).2.2⟩) fun e2 a2 w2 hp2 => ?_
        obtain ⟨y, σ2, η2, hK2, hrel2, hR2, hl2, hn2, hff2, _⟩ := hp2
        have hn2' : σ1.nx ≤ σ2.nx := hn2
        have hl2' : η1.like η2 (ge σ1.nx) := hl2
        split at hK2
        · exact hK2.elim
        · rename_i r2 hlr2
          obtain ⟨hmp2, hK2⟩ := chk_not.1 hK2
          have hrl2 := hR2.hp.loops id r2 hlr2
          rw [LRec.rep, if_neg (by rw [hmp2]; simp)] at hrl2
          obtain ⟨⟨fn2, hrec2⟩, _⟩ := hrl2
          have hadr2 : η2.adr id = η.adr id := ((hl2' id (Hp.fresh_lget (fresh_tm hff1).2.1 hlr1).1).1).trans hadr
          have hlike : η.like η2 (ge nx) := hl1'.trans (hl2'.mono (ge_mono hn1'))
          have fin : ∀ (jump : Option Code) (b : Bool) (st' : LoopState), b = jump.isNone → st' = (if jump.isNone then .ready else .done) → K (.ret (.lb b)) (lset σ2.hp id { r2 with st := st', pend := jump }) σ2.nx →
              ∃ v w', (Instr.endRound (η.adr id) jump).run P w2 = .ok v w' ∧ CPost B η nx K (.returned v) w' := fun jump b st' hb hs hk => by
            have her := run_endRound (P := P) jump hrec2
            rw [hadr2] at her
            have hRe := hR2.hp.lset (r' := { r2 with st := st', pend := jump }) hlr2 hmp2 hmp2 rfl rfl rfl rfl hrec2
            rw [hadr2, hs] at hRe
            refine ⟨_, _, her, .ret (.lb b), _, σ2.nx, η2, hk, by rw [hb]; rfl, ?_, hlike, Nat.le_trans hn1' hn2', fresh_lset (fresh_tm hff2).2.1 hlr2 rfl, rfl⟩
            rw [hs]; exact hRe
          cases y with
          | normal => cases hrel2; exact fin none true .ready rfl rfl hK2
          | ret => cases hrel2; exact fin (some .ret) false .done rfl rfl hK2
          | exit k => cases hrel2; exact fin (some (.exit k)) false .done rfl rfl hK2
          | panic v => exact hK2.elim

theorem inlineS_ok {GB : Base → Prop} (hΓ : CtabOk P GB Γ) {sC : Bool → Code → St → SK → Prop} (hC : CodeOk P GB sC) : (inlineS P Γ sC).ok P GB := by
  intro f vs hp nx K h B hB η w hR hf hfm hm
  cases f with
  | yl id => exact roundS_ok hC h hB hR hf hm
  | fn f =>
    simp only [inlineS] at h
    split at h
    · rename_i C hCf
      obtain ⟨e, hs, h⟩ := Res.all_sat h
      obtain ⟨hef, hK⟩ := chk_iff.1 h
      have := hΓ f C hCf B hB η hp w nx vs e (ge nx) (fun j hj => by simp [rng, ge] at hj ⊢; exact hj.1) hs hR hf hm
      simp only [Eff.fresh, Bool.and_eq_true, Bool.not_eq_true'] at hef
      refine CallsN.mono this fun r w' ⟨η', hr, hh, hl⟩ => ⟨.ret e.val, _, _, η', hK, hr, hh, hl, Nat.le_add_right .., ?_, hef.1⟩
      exact hsets_fresh (Hp.fresh_mono (ge_mono (Nat.le_add_right ..)) hf) hef.2
    · obtain ⟨h1, h2⟩ := enterC_ok hC h hB hR hf hm
      show CallsN P _ ((callFunc f (dens η vs).toArray).run P w)
      rw [h1]
      exact callsIn_wide.1 h2

theorem rangeS_ok {sC : Bool → Code → St → SK → Prop} {GB : Base → Prop} (hC : CodeOk P GB sC) {g : Operand} {ps : Array Tmp} {asg body : Code} {σ : St} {K : SK} (h : rangeS P sC g ps asg body σ K) {B : Base} (hB : GB B) {η : Env} {a : Act} {w : World} {Q : Exit → Act → World → Prop}
    (hR : Rep B η σ a w) (hf : σ.fresh (ge σ.nx) = true) (hQ : ∀ e a' w', RPost B η σ.nx K e a' w' → Q e a' w') : (Code.rangeFunc g ps asg body).wpIn (FR none) 0 P Q a w := by
  unfold rangeS at h
  split at h
  · rename_i gf first caps hg
    obtain ⟨hf1, hf2, hf3⟩ := fresh_tm hf
    have hev := hR.eval g
    rw [hg] at hev
    refine wpIn_rangeFunc fun fn _ => ?_
    have htm : a.tmps = (dens η σ.tm).toArray := by
      apply Array.ext
      · simp [hR.len, dens_length]
      · intro i h1 h2
        have h3 : i < σ.tm.length := by rw [← hR.len]; exact h1
        have := hR.tm i σ.tm[i] (List.getElem?_eq_getElem h3)
        rw [Array.getElem?_eq_getElem h1] at this
        have h4 : (dens η σ.tm)[i]? = some (σ.tm[i].den η) := by rw [dens_get?, List.getElem?_eq_getElem h3]; rfl
        simp only [List.getElem?_eq_getElem (show i < (dens η σ.tm).length by rw [dens_length]; exact h3)] at h4
        simp only [Option.some.injEq] at this h4
        simp [this, h4]
    have hHR := hR.hp.newLoop (k := σ.nx) (p := ge σ.nx) (r := ⟨false, .ready, none, σ.tm, ps, asg, body⟩) (fn := fn) (ge_self _) hf2 hf1 rfl
    generalize hw1 : (w.alloc (.deferred (some []))).alloc (.loop { state := .ready, pending := none, fn, tmps := (dens η σ.tm).toArray, params := ps, assign := asg, body, defers := w.heap.size }) = w1 at hHR
    generalize hη1 : η.set σ.nx (w.heap.size + 1) w.heap.size = η1 at hHR
    have hl1 : η.like η1 (ge σ.nx) := by rw [← hη1]; exact η.like_set _ _ _ (ge_self _)
    have hfn := hg ▸ fresh_ev hf1 g
    simp only [SV.men, Bool.or_eq_false_iff] at hfn
    have hle : ∀ j, ge σ.nx j = false → ge (σ.nx + 1) j = false := ge_mono (Nat.le_succ _)
    have hargs : (dens η1 (first ++ [.yl σ.nx] ++ caps)).toArray = (dens η first).toArray ++ #[.func (.yield (w.heap.size + 1)) #[] #[]] ++ (dens η caps).toArray := by
      rw [dens_append, dens_append, dens_like hl1 first hfn.1, dens_like hl1 caps hfn.2]
      have : dens η1 [.yl σ.nx] = [.func (.yield (w.heap.size + 1)) #[] #[]] := by simp [dens, SV.den, ← hη1, Env.set]
      rw [this]; simp
    have hfr1 : Hp.fresh (ge (σ.nx + 1)) (lset σ.hp σ.nx ⟨false, .ready, none, σ.tm, ps, asg, body⟩) = true :=
      Hp.fresh_eset (e := .loop _) (by simp [ge]) (mens_mono hle _ hf1) (Hp.fresh_mono hle hf2)
    have hmen : mens (ge (σ.nx + 1)) (first ++ [.yl σ.nx] ++ caps) = false := by
      rw [mens_append', mens_append', mens_mono hle _ hfn.1, mens_mono hle _ hfn.2]
      simp [mens, SV.men, ge]
    obtain ⟨hrun, hcall⟩ := enterC_ok hC h hB hHR hfr1 hmen
    rw [hargs] at hrun hcall
    refine ⟨w.heap.size + 1, [{ target := .collected w.heap.size, args := #[] }], w1, { target := .fn (.func gf) (dens η caps).toArray, args := (dens η first).toArray ++ #[.func (.yield (w.heap.size + 1)) #[] #[]] }, w1, gf, _, w1, ?_, ?_, fun _ _ => trivial, hrun, (fun hd => by cases hd), ?_⟩
    · rw [htm, ← hw1]; exact run_enterLoop_outer _ _ _ _ _
    · simp only [resolve, rangeCall, hev, SV.den]
      simp [Deferred.ofValue, Act.eval]
    · refine CallsIn.mono hcall fun e w3 hpost => ?_
      obtain ⟨x, hp', nx', η', hK, hrel, hh, hl, hn, hff, hxm⟩ := hpost
      have hnx : σ.nx ≤ nx' := by omega
      have hlk : η.like η' (ge σ.nx) := hl1.trans (hl.mono (fun j hj => by simp [ge] at *; omega))
      obtain ⟨ha1, hc1, _⟩ := hl σ.nx (by simp [ge])
      have ha : η'.adr σ.nx = w.heap.size + 1 := by rw [ha1, ← hη1]; simp [Env.set]
      have hcp : η'.cap σ.nx = w.heap.size := by rw [hc1, ← hη1]; simp [Env.set]
      have hrep : ∀ (hp2 : Hp) (w4 : World), HRep B η' hp2 w4 → Rep B η' { tm := σ.tm, hp := hp2, nx := nx', df := .mark σ.nx :: σ.df } { a with defers := [{ target := .collected w.heap.size, args := #[] }] ++ a.defers } w4 := fun hp2 w4 hh2 =>
        ⟨hR.len, fun t u ht => by rw [hR.tm t u ht, SV.den_like hlk u (mens_mem hf1 (List.mem_of_getElem? ht))], hh2, by
          show [_] ++ a.defers = _
          rw [hR.df, List.map_cons, dmens_like hlk σ.df hf3]
          simp [Dfr.den, hcp]⟩
      have hge : ge nx' σ.nx = false := by simp [ge]; omega
      have hfr : ∀ hp2, Hp.fresh (ge nx') hp2 = true → St.fresh (ge nx') { tm := σ.tm, hp := hp2, nx := nx', df := .mark σ.nx :: σ.df } = true := fun hp2 h2 =>
        fresh_iff.2 ⟨mens_mono (ge_mono hnx) _ hf1, h2, by simp only [dmens, Bool.or_eq_false_iff]; exact ⟨hge, dmens_mono (ge_mono hnx) hf3⟩⟩
      cases x with
      | panic v =>
        cases hrel
        exact hQ _ _ _ ⟨.panic v, _, η', hK, rfl, hrep hp' w3 hh, hlk, hnx, hfr hp' hff, hxm⟩
      | ret v =>
        cases hrel
        simp only at hK
        split at hK
        · exact hK.elim
        · rename_i r hlr
          obtain ⟨hmp, hK⟩ := chk_not.1 hK
          obtain ⟨hbusy, hK⟩ := chk_not.1 hK
          replace hbusy := of_decide_eq_false hbusy
          have hrl := hh.loops σ.nx r hlr
          rw [LRec.rep, if_neg (by rw [hmp]; simp)] at hrl
          obtain ⟨⟨fn', hrec⟩, _⟩ := hrl
          have hend := run_endLoop (P := P) hrec hbusy
          have hH2 := hh.lset (r' := { r with st := .exhausted }) hlr hmp hmp rfl rfl rfl rfl hrec
          rw [ha] at hend hH2
          have hf2' := fresh_lset (r' := { r with st := .exhausted }) hff hlr rfl
          refine ⟨_, _, hend, ?_⟩
          simp only
          have fin : ∀ (y : SExit) (e : Exit), (∀ η, y.rel η e) → y.men (ge nx') = false → K y { tm := σ.tm, hp := lset hp' σ.nx { r with st := .exhausted }, nx := nx', df := .mark σ.nx :: σ.df } → Q e { a with defers := [{ target := .collected w.heap.size, args := #[] }] ++ a.defers } _ := fun y e hye hym hk =>
            hQ e _ _ ⟨y, _, η', hk, hye η', hrep _ _ hH2, hlk, hnx, hfr _ hf2', hym⟩
          split at hK
          · rename_i hp0; have hq := fin .normal .normal (fun _ => rfl) rfl hK; simp only [hp0] at hq ⊢; exact hq
          · rename_i hp0; have hq := fin .ret .ret (fun _ => rfl) rfl hK; simp only [hp0] at hq ⊢; exact wpIn_ret hq
          · rename_i k hp0; have hq := fin (.exit k) (.exit k) (fun _ => rfl) rfl hK; simp only [hp0] at hq ⊢; exact wpIn_exit hq
          · exact hK.elim
  · exact h.elim
end
end Go.Sx
