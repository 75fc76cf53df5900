import Derived.Test.YtmeebemkoakkmaaGreatDoorSxK2
import Derived.Scope
import Derived.RangeFuncRecord
import Derived.OrdersIn
set_option linter.all false
/-
  Contracts; regions in the order of the text; calls.
-/
noncomputable section
namespace Go.Sx
open Go

def ge (k : Nat) : Nat → Bool := fun j => decide (k ≤ j)
theorem ge_self (k : Nat) : ge k k = true := by simp [ge]
theorem ge_mono {k m : Nat} (h : k ≤ m) : ∀ j, ge k j = false → ge m j = false := fun j hj => by simp [ge] at *; omega

/-- the wide fence, in a round or in none -/
def FR (r : Option Nat) : Fence := { Fence.wide with round := r }
theorem callsIn_FR {r : Option Nat} {n : Nat} {P : Program} {f : FuncId} {args : Array Value} {w : World} {R : Ending → World → Prop} : CallsIn (FR r) n P f args w R ↔ Calls P f args w R :=
  callsIn_wide (n := n)

/-- what comes of a call -/
def CallsN (P : Program) (R : Ending → World → Prop) : Result Next → Prop
  | .ok (.enter g as) w' => Calls P g as w' R
  | .ok (.value v) w' => R (.returned v) w'
  | .ok (.round l f tmps asg body) w' => RoundIn Fence.wide 0 P l f tmps asg body w' R
  | _ => False
theorem CallsN.mono {P : Program} {R R' : Ending → World → Prop} {x : Result Next} (h : CallsN P R x) (hr : ∀ e w, R e w → R' e w) : CallsN P R' x := by
  unfold CallsN at *
  split at h
  · exact Calls.mono h hr
  · exact hr _ _ h
  · exact RoundIn.mono h hr
  · exact h.elim
theorem CallsN.upon {P : Program} {r : Option Nat} {o : Oper} {a : Act} {next : Act → World → Prop} {Q : Exit → Act → World → Prop} {R : Ending → World → Prop} {x : Result Next} (h : CallsN P R x)
    (h1 : ∀ v w, R (.returned v) w → next (a.put o.dst v) w) (h2 : ∀ ch w, R (.panicked ch) w → Q (.panic ch) a w) (h3 : ∀ w, ¬ R .outgrown w) : o.uponIn (FR r) 0 P a next Q x := by
  have key : ∀ e w, R e w → (match (motive := Ending → World → Prop) e, w with | .returned v, w'' => next (a.put o.dst v) w'' | .panicked chain, w'' => Q (.panic chain) a w'' | .outgrown, _ => LetsOut Q) := fun e w hr => by
    cases e with
    | returned v => exact h1 v w hr
    | panicked ch => exact h2 ch w hr
    | outgrown => exact (h3 w hr).elim
  unfold CallsN at h
  split at h
  · exact ⟨(fun hd => by cases hd), callsIn_FR.2 (Calls.mono h fun e w hr => by cases e <;> exact key _ w hr)⟩
  · exact h1 _ _ h
  · exact ⟨(fun hd => by cases hd), RoundIn.mono (F := FR r) h fun e w hr => by cases e <;> exact key _ w hr⟩
  · exact h.elim

/-- a call, by whichever door -/
def CallsX (P : Program) (f : FuncId) (args : Array Value) (w : World) (R : Ending → World → Prop) : Prop := CallsN P R ((callFunc f args).run P w)
theorem CallsX.mono {P : Program} {f : FuncId} {args : Array Value} {w : World} {R R' : Ending → World → Prop} (h : CallsX P f args w R) (hr : ∀ e w, R e w → R' e w) : CallsX P f args w R' :=
  CallsN.mono h hr

inductive Callee where
  | fn (f : FuncId)
  | yl (id : Nat)
def Callee.run (η : Env) : Callee → Array Value → Sem Next
  | .fn f, args => callFunc f args
  | .yl id, args => Instr.yield (η.adr id) args
def Callee.men (p : Nat → Bool) : Callee → Bool
  | .fn _ => false
  | .yl id => p id

def Eff.fresh (p : Nat → Bool) (e : Eff) : Bool := !e.val.men p && e.sets.all fun x => !p x.1 && !(match x.2 with | some c => c.so.men p | none => false)
theorem hsets_fresh {p : Nat → Bool} : ∀ {s : List (Nat × Option Blk)} {h : Hp}, Hp.fresh p h = true → (s.all fun x => !p x.1 && !(match x.2 with | some c => c.so.men p | none => false)) = true → Hp.fresh p (hsets h s) = true
  | [], h, hf, _ => hf
  | (i, b) :: r, h, hf, ha => by
    simp only [List.all_cons, Bool.and_eq_true, Bool.not_eq_true'] at ha
    refine hsets_fresh (s := r) (h := hset h i b) ?_ ha.2
    cases b with
    | none => exact fresh_drop hf ha.1.1
    | some c => exact fresh_set hf ha.1.1 ha.1.2
theorem mens_set {p : Nat → Bool} {v : SV} (hv : v.men p = false) : ∀ {l : List SV} {d : Nat}, mens p l = false → mens p (l.set d v) = false
  | [], _, h => h
  | u :: l, 0, h => by simp only [mens, Bool.or_eq_false_iff] at h; simp [mens, hv, h.2]
  | u :: l, d + 1, h => by simp only [mens, Bool.or_eq_false_iff] at h; simp [mens, h.1, mens_set hv h.2]
theorem mens_put {p : Nat → Bool} {v : SV} (hv : v.men p = false) {l : List SV} (d : Option Nat) (h : mens p l = false) : mens p (match d with | some d => l.setN d v | none => l) = false := by
  cases d with
  | none => exact h
  | some d => simp only [List.setN_eq]; exact mens_set hv h
mutual
theorem SV.men_mono {p q : Nat → Bool} (hpq : ∀ j, p j = false → q j = false) : ∀ v : SV, v.men p = false → v.men q = false
  | .lit .., _ | .int .., _ | .lb _, _ | .bool _, _ | .str _, _ | .nilp, _ | .nils, _ | .nilf, _ | .nili, _ | .val _, _ => rfl
  | .ptr id o, h => hpq id h
  | .pti id .., h => hpq id h
  | .sl id o l cp, h => hpq id h
  | .jk i, h => hpq i h
  | .yl i, h => hpq i h
  | .mref i, h => hpq i h
  | .fn f x cs, h => by
    simp only [SV.men, Bool.or_eq_false_iff] at h ⊢
    exact ⟨mens_mono hpq x h.1, mens_mono hpq cs h.2⟩
  | .iface t v, h => SV.men_mono hpq v h
  | .agg cs, h => mens_mono hpq cs h
  | .tup cs, h => mens_mono hpq cs h
theorem mens_mono {p q : Nat → Bool} (hpq : ∀ j, p j = false → q j = false) : ∀ vs : List SV, mens p vs = false → mens q vs = false
  | [], _ => rfl
  | v :: vs, h => by
    simp only [mens, Bool.or_eq_false_iff] at h ⊢
    exact ⟨SV.men_mono hpq v h.1, mens_mono hpq vs h.2⟩
end
theorem Ent.men_mono {p q : Nat → Bool} (hpq : ∀ j, p j = false → q j = false) {e : Ent} (h : e.men p = false) : e.men q = false := by
  cases e with
  | dead => rfl
  | loop r => exact mens_mono hpq _ h
  | blk b =>
    obtain ⟨rw, kc, fx, so⟩ := b
    cases so with
    | cells cs => exact mens_mono hpq _ h
    | recs sz cs => exact mens_mono hpq _ h
    | _ => rfl
theorem Hp.fresh_mono {p q : Nat → Bool} (hpq : ∀ j, p j = false → q j = false) : ∀ {h : Hp}, Hp.fresh p h = true → Hp.fresh q h = true
  | [], _ => rfl
  | (i, e) :: r, h => by
    simp only [Hp.fresh, Bool.and_eq_true, Bool.not_eq_true'] at h ⊢
    exact ⟨⟨hpq i h.1.1, Ent.men_mono hpq h.1.2⟩, Hp.fresh_mono hpq h.2⟩
theorem dmens_mono {p q : Nat → Bool} (hpq : ∀ j, p j = false → q j = false) : ∀ {l : List Dfr}, dmens p l = false → dmens q l = false
  | [], _ => rfl
  | d :: r, h => by
    simp only [dmens, Bool.or_eq_false_iff] at h ⊢
    refine ⟨?_, dmens_mono hpq h.2⟩
    cases d with
    | mark id => exact hpq id h.1
    | clo f vs => exact mens_mono hpq vs h.1
theorem fresh_iff {p : Nat → Bool} {σ : St} : σ.fresh p = true ↔ mens p σ.tm = false ∧ Hp.fresh p σ.hp = true ∧ dmens p σ.df = false := by simp [St.fresh, and_assoc]
theorem St.fresh_mono {p q : Nat → Bool} (hpq : ∀ j, p j = false → q j = false) {σ : St} (h : σ.fresh p = true) : σ.fresh q = true := by
  rw [fresh_iff] at *
  exact ⟨mens_mono hpq _ h.1, Hp.fresh_mono hpq h.2.1, dmens_mono hpq h.2.2⟩

structure FC where
  need : (Nat → Option Blk) → List SV → List Nat
  res : Nat → (Nat → Option Blk) → List SV → Res
  loc : ∀ key g g' vs, (∀ i, i ∈ need g vs → g i = g' i) → res key g vs = res key g' vs

/-- the keys that are one operation's -/
def rng (k : Nat) : Nat → Bool := fun j => decide (k ≤ j) && decide (j < k + 1048576)

def FC.ok (P : Program) (GB : Base → Prop) (f : FuncId) (C : FC) : Prop :=
  ∀ (B : Base), GB B → ∀ (η : Env) (hp : Hp) (w : World) (key : Nat) (vs : List SV) (e : Eff) (p : Nat → Bool), (∀ j, rng key j = true → p j = true) → (C.res key (hget hp) vs).sat e → HRep B η hp w → Hp.fresh p hp = true → mens p vs = false →
    CallsX P f (dens η vs).toArray w fun r w' => ∃ η', r = .returned (e.val.den η') ∧ HRep B η' (hsets hp e.sets) w' ∧ η.like η' p

inductive CExit where
  | ret (v : SV)
  | panic (v : SV)
def CExit.rel (η : Env) : CExit → Ending → Prop
  | .ret v, r => r = .returned (v.den η)
  | .panic v, r => r = .panicked [{ v := v.den η, recovered := false }]
def CExit.men (p : Nat → Bool) : CExit → Bool
  | .ret v => v.men p
  | .panic v => v.men p

abbrev CallS := Callee → List SV → Hp → Nat → (CExit → Hp → Nat → Prop) → Prop

def CallS.ok (P : Program) (GB : Base → Prop) (call : CallS) : Prop :=
  ∀ (f : Callee) (vs : List SV) (hp : Hp) (nx : Nat) (K : CExit → Hp → Nat → Prop), call f vs hp nx K → ∀ (B : Base), GB B → ∀ (η : Env) (w : World), HRep B η hp w → Hp.fresh (ge nx) hp = true → f.men (ge nx) = false → mens (ge nx) vs = false →
    CallsN P (fun r w' => ∃ x hp' nx' η', K x hp' nx' ∧ x.rel η' r ∧ HRep B η' hp' w' ∧ η.like η' (ge nx) ∧ nx ≤ nx' ∧ Hp.fresh (ge nx') hp' = true ∧ x.men (ge nx') = false) ((f.run η (dens η vs).toArray).run P w)

inductive SExit where
  | normal
  | exit (id : Nat)
  | ret
  | panic (v : SV)
def SExit.rel (η : Env) : SExit → Exit → Prop
  | .normal, e => e = .normal
  | .exit id, e => e = .exit id
  | .ret, e => e = .ret
  | .panic v, e => e = .panic [{ v := v.den η, recovered := false }]

def SExit.men (p : Nat → Bool) : SExit → Bool
  | .panic v => v.men p
  | _ => false

inductive WS where
  | yes
  | no
  | ask (b want : Bool)
  | bad
def gval (ops : Array Oper) (σ : St) (j : Nat) : Option SV := match (ops[j]?).bind (·.dst) with
  | some d => σ.tm.nthK none some d
  | none => none
def wantS (ops : Array Oper) (σ : St) (o : Oper) : WS :=
  match o.guard with
  | none => .yes
  | some (j, want) => match gval ops σ j with
    | none => .bad
    | some (.lb b) => if b = want then .yes else .no
    | some (.bool b) => .ask b want
    | some (.tup _) => .no
    | _ => .bad

/-- the callee and the arguments of a call of a function -/
def calleeS (ρ : Operand → SV) : Op → Option (Callee × List SV)
  | .call { callee := .value f, args, .. } => match ρ f with
    | .fn (.func k) first caps => some (.fn k, first ++ args.toList.map ρ ++ caps)
    | .yl id => some (.yl id, args.toList.map ρ)
    | _ => none
  | _ => none
/-- a call that is put off -/
def deferS (ρ : Operand → SV) : Op → Option Dfr
  | .defer { callee := .value f, args, .. } => match ρ f with
    | .fn (.func k) [] caps => if args.size = 0 then some (.clo k caps) else none
    | _ => none
  | _ => none

def St.put (σ : St) (dst : Option Tmp) (v : SV) : St := { σ with tm := match dst with | some d => σ.tm.setN d v | none => σ.tm }

def panicS (ρ : Operand → SV) : Op → Option SV
  | .panic x => match ρ x with
    | .iface t v => some (.iface t v)
    | _ => none
  | _ => none

/-- a value told otherwise -/
structure FixOk (fx : SV → SV) : Prop where
  den : ∀ v η, (fx v).den η = v.den η
  men : ∀ v p, (fx v).men p = v.men p
theorem fixOk_id : FixOk id := ⟨fun _ _ => rfl, fun _ _ => rfl⟩

/-- is it what a later one waits for? -/
def isGuard (ops : Array Oper) (i : Nat) : Bool := ops.toList.any fun o => match o.guard with
  | some (j, _) => Nat.beq j i
  | none => false
/-- a truth value that others wait for: both ways -/
def splitV (g : Unit → Bool) (v : SV) (k : SV → Prop) : Prop := match v with
  | .bool b => match g () with
    | true => (b = true → k (.lb true)) ∧ (b = false → k (.lb false))
    | false => k (.bool b)
  | v => k v
theorem splitV_elim {g : Unit → Bool} {v : SV} {k : SV → Prop} (h : splitV g v k) : ∃ u, k u ∧ (∀ η, u.den η = v.den η) ∧ ∀ p, u.men p = v.men p := by
  unfold splitV at h
  split at h
  · rename_i b
    split at h
    · cases b
      · exact ⟨_, h.2 rfl, fun _ => rfl, fun _ => rfl⟩
      · exact ⟨_, h.1 rfl, fun _ => rfl, fun _ => rfl⟩
    · exact ⟨_, h, fun _ => rfl, fun _ => rfl⟩
  · exact ⟨_, h, fun _ => rfl, fun _ => rfl⟩

/-- one operation, in the order of the text -/
def symOp (P : Program) (fx : SV → SV) (rd : Bool) (call : CallS) (gd : Unit → Bool) (o : Oper) (σ : St) (next : St → Prop) (K : SExit → St → Prop) : Prop :=
  match pureOp P σ.ev o.op with
  | .fail =>
    match panicS σ.ev o.op with
    | some v => K (.panic v) σ
    | none =>
      match calleeS σ.ev o.op with
      | some (f, vs) => call f vs σ.hp σ.nx fun x hp' nx' => match x with
          | .ret v => splitV gd (fx v) fun u => next { tm := match o.dst with | some d => σ.tm.setN d u | none => σ.tm, hp := hp', nx := nx', df := σ.df }
          | .panic v => K (.panic v) { σ with hp := hp', nx := nx' }
      | none => match deferS σ.ev o.op with
        | some d => chk (!rd) <| next { tm := match o.dst with | some d => σ.tm.setN d undefS | none => σ.tm, hp := σ.hp, nx := σ.nx, df := d :: σ.df }
        | none => match mapS P σ.ev (lget σ.hp) σ.nx o.op with
          | some (v, id, r) => chk (!v.men (ge (σ.nx + 8))) <| chk (!mens (ge (σ.nx + 8)) r.tm) <| chk (!ge (σ.nx + 8) id) <| splitV gd (fx v) fun u => next { tm := match o.dst with | some d => σ.tm.setN d u | none => σ.tm, hp := lset σ.hp id r, nx := σ.nx + 8, df := σ.df }
          | none => (memOp P σ.ev (hget σ.hp) σ.nx o.op).all fun e => chk (e.fresh (ge (σ.nx + 8))) <| splitV gd (fx e.val) fun u => next { σ.app o.dst { e with val := u } with nx := σ.nx + 8 }
  | r => r.all fun e => chk (!e.val.men (ge σ.nx)) <| splitV gd (fx e.val) fun u => next (σ.app o.dst { e with val := u })

def symOps (P : Program) (fx : SV → SV) (rd : Bool) (call : CallS) (ops : Array Oper) (K : SExit → St → Prop) : List Nat → St → Prop
  | [], σ => K .normal σ
  | i :: rest, σ => match ops[i]? with
    | none => symOps P fx rd call ops K rest σ
    | some o => match wantS ops σ o with
      | .yes => symOp P fx rd call (fun _ => isGuard ops i) o σ (symOps P fx rd call ops K rest) K
      | .no => symOps P fx rd call ops K rest (σ.put o.dst undefS)
      | .ask b want => (b = want → symOp P fx rd call (fun _ => isGuard ops i) o σ (symOps P fx rd call ops K rest) K) ∧ (¬ b = want → symOps P fx rd call ops K rest (σ.put o.dst undefS))
      | .bad => False

/-! soundness -/
section
variable {P : Program}

theorem wantS_sound {B : Base} {η : Env} {ops : Array Oper} {σ : St} {o : Oper} {a : Act} {w : World} (h : Rep B η σ a w) :
    (wantS ops σ o = .yes → Region.wanted o (yielded ops a.tmps) = true) ∧ (wantS ops σ o = .no → Region.wanted o (yielded ops a.tmps) = false) ∧
      (∀ b want, wantS ops σ o = .ask b want → Region.wanted o (yielded ops a.tmps) = decide (b = want)) := by
  unfold wantS Region.wanted
  cases hg : o.guard with
  | none => simp
  | some x =>
    obtain ⟨j, want⟩ := x
    simp only
    have key : ∀ v, gval ops σ j = some v → (((ops[j]?).bind (·.dst)).bind fun d => a.tmps[d]?) = some (v.den η) := by
      intro v hv
      unfold gval at hv
      cases hd : (ops[j]?).bind (·.dst) with
      | none => rw [hd] at hv; cases hv
      | some d => rw [hd] at hv; exact h.tm d v (by rw [← List.nthK_some]; exact hv)
    split
    · simp
    · rename_i b hb
      have hy : yielded ops a.tmps j = some b := by unfold yielded; rw [key _ hb]; rfl
      rw [hy]
      by_cases hw : b = want <;> simp [hw]
    · rename_i b hb
      have hy : yielded ops a.tmps j = some b := by unfold yielded; rw [key _ hb]; rfl
      rw [hy]
      refine ⟨by simp, by simp, fun b' w' e => ?_⟩
      simp only [WS.ask.injEq] at e
      obtain ⟨rfl, rfl⟩ := e
      by_cases hw : b = want <;> simp [hw]
    · rename_i vs hb
      have hy : yielded ops a.tmps j = none := by unfold yielded; rw [key _ hb]; rfl
      rw [hy]; simp
    · simp

theorem fresh_tm {p : Nat → Bool} {σ : St} (h : σ.fresh p = true) : mens p σ.tm = false ∧ Hp.fresh p σ.hp = true ∧ dmens p σ.df = false := by
  simpa [St.fresh, and_assoc] using h
theorem fresh_ev {p : Nat → Bool} {σ : St} (h : mens p σ.tm = false) (x : Operand) : (σ.ev x).men p = false := by
  cases x with
  | tmp t =>
    simp only [St.ev, List.nthK_eq]
    cases ht : σ.tm[t]? with
    | none => rfl
    | some v => exact mens_mem h (List.mem_of_getElem? ht)
  | const v =>
    simp only [St.ev]; unfold ofV; split
    · exact mens_ofV1 ..
    · unfold ofV1; split <;> rfl
  | global g => rfl
  | func f => rfl

theorem Rep.turn {B : Base} {η η' : Env} {σ : St} {a : Act} {w w' : World} {p : Nat → Bool} {hp' : Hp} {nx' : Nat} (h : Rep B η σ a w) (hm : mens p σ.tm = false) (hd : dmens p σ.df = false) (hl : η.like η' p) (hh : HRep B η' hp' w') :
    Rep B η' { σ with hp := hp', nx := nx' } a w' :=
  ⟨h.len, fun t u ht => by rw [h.tm t u ht, SV.den_like hl u (mens_mem hm (List.mem_of_getElem? ht))], hh, h.df.trans (dmens_like hl σ.df hd).symm⟩
/-- the frame behind a value that came in a new world -/
theorem Rep.step {B : Base} {η η' : Env} {σ : St} {a : Act} {w w' : World} {p : Nat → Bool} {hp' : Hp} {nx' : Nat} (h : Rep B η σ a w) (hm : mens p σ.tm = false) (hd : dmens p σ.df = false) (hl : η.like η' p) (hh : HRep B η' hp' w') (dst : Option Tmp) (v : SV) :
    Rep B η' { tm := match dst with | some d => σ.tm.setN d v | none => σ.tm, hp := hp', nx := nx', df := σ.df } (a.put dst (v.den η')) w' := (h.turn hm hd hl hh).put dst v

theorem put_defers (a : Act) (dst : Option Tmp) (v : Value) : (a.put dst v).defers = a.defers := by cases dst <;> rfl

theorem panicS_sound {η : Env} {w : World} {ρ : Operand → SV} {o : Oper} {v : SV} (h : panicS ρ o.op = some v) : (execOp (fun x => (ρ x).den η) o).run P w = .halt (.panic (v.den η)) w := by
  obtain ⟨dst, op, ty, pos, after, guard⟩ := o
  cases op <;> simp only [panicS, reduceCtorEq] at h
  split at h
  · rename_i t u hx
    simp only [Option.some.injEq] at h; subst h
    unfold execOp
    dsimp only
    rw [hx]
    simp [SV.den, Instr.panic]
  · cases h

theorem calleeS_sound {η : Env} {w : World} {ρ : Operand → SV} {o : Oper} {f : Callee} {vs : List SV} (h : calleeS ρ o.op = some (f, vs)) :
    (execOp (fun x => (ρ x).den η) o).run P w = (f.run η (dens η vs).toArray).run P w := by
  obtain ⟨dst, op, ty, pos, after, guard⟩ := o
  cases op <;> simp only [calleeS, reduceCtorEq] at h
  rename_i c
  obtain ⟨callee, args, argTypes⟩ := c
  cases callee <;> simp only [reduceCtorEq] at h
  split at h
  · rename_i k first caps hx
    simp only [Option.some.injEq, Prod.mk.injEq] at h; obtain ⟨rfl, rfl⟩ := h
    unfold execOp
    dsimp only
    rw [Sem.run_bind]
    simp only [resolve, hx, SV.den, Deferred.ofValue, Sem.run_pure, Result.andThen_ok, invoke, Callee.run]
    congr 2
    rw [dens_append, dens_append, dens_eq η (List.map ρ args.toList), List.map_map]
    apply Array.ext'
    simp
  · rename_i id hx
    simp only [Option.some.injEq, Prod.mk.injEq] at h; obtain ⟨rfl, rfl⟩ := h
    unfold execOp
    dsimp only
    rw [Sem.run_bind]
    simp only [resolve, hx, SV.den, Deferred.ofValue, Sem.run_pure, Result.andThen_ok, invoke, Callee.run]
    congr 2
    rw [dens_eq, List.map_map]
    apply Array.ext'
    simp
  · cases h

theorem deferS_sound {η : Env} {w : World} {ρ : Operand → SV} {o : Oper} {d : Dfr} (h : deferS ρ o.op = some d) : (execOp (fun x => (ρ x).den η) o).run P w = .ok (.defer (d.den η)) w := by
  obtain ⟨dst, op, ty, pos, after, guard⟩ := o
  cases op <;> simp only [deferS, reduceCtorEq] at h
  rename_i c
  obtain ⟨callee, args, argTypes⟩ := c
  cases callee <;> simp only [reduceCtorEq] at h
  split at h
  · rename_i k caps hx
    split at h
    · rename_i hsz
      simp only [Option.some.injEq] at h; subst h
      have : args = #[] := Array.eq_empty_of_size_eq_zero hsz
      subst this
      unfold execOp
      dsimp only
      rw [Sem.run_bind]
      simp [resolve, hx, SV.den, Deferred.ofValue, Sem.run_pure, Result.andThen_ok, Dfr.den, dens]
    · cases h
  · cases h
theorem deferS_ofO {ρ : Operand → SV} {op : Op} (h : ∀ c, op ≠ .defer c) : deferS ρ op = none := by
  cases op <;> first | rfl | exact absurd rfl (h _)

theorem mens_append' {p : Nat → Bool} : ∀ {a b : List SV}, mens p (a ++ b) = (mens p a || mens p b)
  | [], _ => by simp [mens]
  | v :: a, b => by simp [mens, mens_append' (a := a), Bool.or_assoc]
theorem mens_map {p : Nat → Bool} {l : List Operand} {ρ : Operand → SV} (h : ∀ x, (ρ x).men p = false) : mens p (l.map ρ) = false := by
  induction l with
  | nil => rfl
  | cons x l ih => simp [mens, h x, ih]
theorem calleeS_men {p : Nat → Bool} {ρ : Operand → SV} {op : Op} {f : Callee} {vs : List SV} (h : calleeS ρ op = some (f, vs)) (hm : ∀ x, (ρ x).men p = false) : f.men p = false ∧ mens p vs = false := by
  cases op <;> simp only [calleeS, reduceCtorEq] at h
  rename_i c
  obtain ⟨callee, args, argTypes⟩ := c
  cases callee <;> simp only [reduceCtorEq] at h
  rename_i g
  have hg := hm g
  split at h
  · rename_i k first caps hx
    simp only [Option.some.injEq, Prod.mk.injEq] at h; obtain ⟨rfl, rfl⟩ := h
    rw [hx] at hg
    simp only [SV.men, Bool.or_eq_false_iff] at hg
    exact ⟨rfl, by simp [mens_append', hg.1, hg.2, mens_map hm]⟩
  · rename_i id hx
    simp only [Option.some.injEq, Prod.mk.injEq] at h; obtain ⟨rfl, rfl⟩ := h
    rw [hx] at hg
    exact ⟨hg, mens_map hm⟩
  · cases h
theorem deferS_men {p : Nat → Bool} {ρ : Operand → SV} {op : Op} {d : Dfr} (h : deferS ρ op = some d) (hm : ∀ x, (ρ x).men p = false) : d.men p = false := by
  cases op <;> simp only [deferS, reduceCtorEq] at h
  rename_i c
  obtain ⟨callee, args, argTypes⟩ := c
  cases callee <;> simp only [reduceCtorEq] at h
  rename_i g
  have hg := hm g
  split at h
  · rename_i k caps hx
    rw [hx] at hg
    simp only [SV.men, Bool.or_eq_false_iff] at hg
    split at h
    · simp only [Option.some.injEq] at h; subst h; exact hg.2
    · cases h
  · cases h
theorem panicS_men {p : Nat → Bool} {ρ : Operand → SV} {op : Op} {v : SV} (h : panicS ρ op = some v) (hm : ∀ x, (ρ x).men p = false) : v.men p = false := by
  cases op <;> simp only [panicS, reduceCtorEq] at h
  rename_i x
  have hx := hm x
  split at h
  · rename_i t u hu
    simp only [Option.some.injEq] at h; subst h
    rw [hu] at hx; exact hx
  · cases h
theorem put_fresh {p : Nat → Bool} {σ : St} (h : σ.fresh p = true) {v : SV} (hv : v.men p = false) (d : Option Tmp) (hp' : Hp) (nx' : Nat) (hh : Hp.fresh p hp' = true) :
    St.fresh p { tm := match d with | some d => σ.tm.setN d v | none => σ.tm, hp := hp', nx := nx', df := σ.df } = true := by
  rw [fresh_iff] at *
  exact ⟨mens_put hv d h.1, hh, h.2.2⟩

/-- what a region's walk leaves -/
def RPost (B : Base) (η : Env) (nx : Nat) (K : SExit → St → Prop) (e : Exit) (a : Act) (w : World) : Prop :=
  ∃ x σ η', K x σ ∧ x.rel η' e ∧ Rep B η' σ a w ∧ η.like η' (ge nx) ∧ nx ≤ σ.nx ∧ σ.fresh (ge σ.nx) = true ∧ x.men (ge σ.nx) = false

theorem RPost.mono {B : Base} {η η1 : Env} {nx nx1 : Nat} {K : SExit → St → Prop} {e : Exit} {a : Act} {w : World} (hl : η.like η1 (ge nx)) (hn : nx ≤ nx1) (h : RPost B η1 nx1 K e a w) : RPost B η nx K e a w := by
  obtain ⟨x, σ, η', h1, h2, h3, h4, h5⟩ := h
  exact ⟨x, σ, η', h1, h2, h3, hl.trans (h4.mono (ge_mono hn)), by omega, h5.2⟩

/-- an operation in a round or in none, that puts off no call -/
theorem Oper.wpIn_of {r : Option Nat} {o : Oper} {a : Act} {w : World} {N : Act → World → Prop} {Q : Exit → Act → World → Prop} (hd : r = none ∨ ∀ c, o.op ≠ .defer c)
    (h : o.uponIn (FR r) 0 P a N Q ((execOp a.eval o).run P w)) : o.wpIn (FR r) 0 P a w N Q := by
  refine ⟨fun _ _ => trivial, ?_⟩
  show o.uponIn (FR r) 0 P a N Q ((o.semAt r a.eval).run P w)
  rcases hd with rfl | hd
  · exact h
  · rw [Oper.semAt_eq r a.eval o hd]; exact h

theorem pure_noDefer {ρ : Operand → SV} {op : Op} {e : Eff} (h : (pureOp P ρ op).sat e) : ∀ c, op ≠ .defer c := fun c e' => by subst e'; exact h.elim
theorem mem_noDefer {ρ : Operand → SV} {op : Op} {g : Nat → Option Blk} {key : Nat} {e : Eff} (h : (memOp P ρ g key op).sat e) : ∀ c, op ≠ .defer c := fun c e' => by subst e'; exact h.elim

theorem map_noDefer {ρ : Operand → SV} {op : Op} {lg : Nat → Option LRec} {key : Nat} {x : SV × Nat × LRec} (h : mapS P ρ lg key op = some x) : ∀ c, op ≠ .defer c := fun c e' => by subst e'; cases h
theorem symOp_sound {GB : Base → Prop} {fx : SV → SV} (hfx : FixOk fx) {rd : Bool} {r : Option Nat} (hrd : r.isSome = rd) {call : CallS} (hcall : call.ok P GB) {B : Base} (hB : GB B) {gd : Unit → Bool} {o : Oper} {σ : St} {next : St → Prop} {K : SExit → St → Prop} {η : Env} {a : Act} {w : World} {Q : Exit → Act → World → Prop} {N : Act → World → Prop}
    (h : symOp P fx rd call gd o σ next K) (hR : Rep B η σ a w) (hf : σ.fresh (ge σ.nx) = true) (hQ : ∀ e a' w', RPost B η σ.nx K e a' w' → Q e a' w')
    (hN : ∀ σ' η' a' w', next σ' → Rep B η' σ' a' w' → η.like η' (ge σ.nx) → σ.nx ≤ σ'.nx → σ'.fresh (ge σ'.nx) = true → N a' w') : o.wpIn (FR r) 0 P a w N Q := by
  unfold symOp at h
  have hev := hR.evalF
  obtain ⟨hf1, hf2, hf3⟩ := fresh_tm hf
  split at h
  · split at h
    · rename_i v hv
      refine Oper.wpIn_of (.inr fun c e => by rw [e] at hv; cases hv) ?_
      rw [hev, panicS_sound hv]
      exact hQ _ _ _ ⟨.panic v, σ, η, h, rfl, hR, η.like_refl _, Nat.le_refl _, hf, panicS_men hv (fresh_ev hf1)⟩
    · split at h
      · rename_i f vs hc
        obtain ⟨hm1, hm2⟩ := calleeS_men hc (fresh_ev hf1)
        have := hcall f vs σ.hp σ.nx _ h B hB η w hR.hp hf2 hm1 hm2
        refine Oper.wpIn_of (.inr fun c e => by rw [e] at hc; cases hc) ?_
        rw [hev, calleeS_sound hc]
        refine CallsN.upon this (fun v w'' hr => ?_) (fun ch w'' hr => ?_) (fun w'' hr => ?_)
        · obtain ⟨x, hp', nx', η', hK, hrel, hh, hl, hn, hff, hxm⟩ := hr
          cases x with
          | ret v =>
            cases hrel
            obtain ⟨u, hK, hud, hum⟩ := splitV_elim hK
            exact hN _ _ _ _ hK (by have := hR.step hf1 hf3 hl hh (nx' := nx') o.dst u; rw [hud, hfx.den] at this; exact this) hl hn (put_fresh (St.fresh_mono (ge_mono hn) hf) (by rw [hum, hfx.men]; exact hxm) o.dst hp' nx' hff)
          | panic v => cases hrel
        · obtain ⟨x, hp', nx', η', hK, hrel, hh, hl, hn, hff, hxm⟩ := hr
          cases x with
          | ret v => cases hrel
          | panic v =>
            cases hrel
            refine hQ _ _ _ ⟨.panic v, _, η', hK, rfl, hR.turn hf1 hf3 hl hh, hl, hn, ?_, hxm⟩
            exact fresh_iff.2 ⟨mens_mono (ge_mono hn) _ hf1, hff, dmens_mono (ge_mono hn) hf3⟩
        · obtain ⟨x, hp', nx', η', hK, hrel, hh, hl, hn⟩ := hr
          cases x <;> cases hrel
      · split at h
        · rename_i d hd
          obtain ⟨hrd', h⟩ := chk_not.1 h
          have hr0 : r = none := by
            cases r with
            | none => rfl
            | some l => rw [hrd'] at hrd; cases hrd
          refine Oper.wpIn_of (.inl hr0) ?_
          rw [hev, deferS_sound hd]
          simp only [Oper.uponIn]
          have hput := hR.put o.dst undefS
          refine hN _ η _ _ h ⟨?_, ?_, ?_, ?_⟩ (η.like_refl _) (Nat.le_refl _) ?_
          · have := hput.len; cases hdst : o.dst <;> rw [hdst] at this <;> exact this
          · have := hput.tm; cases hdst : o.dst <;> rw [hdst] at this <;> exact this
          · exact hR.hp
          · rw [put_defers]
            simp only [List.map_cons]; rw [hR.df]
          · refine fresh_iff.2 ⟨mens_put rfl o.dst hf1, hf2, ?_⟩
            simp only [dmens, Bool.or_eq_false_iff]
            exact ⟨deferS_men hd (fresh_ev hf1), hf3⟩
        · split at h
          · rename_i v id lr hmap
            obtain ⟨hv, h⟩ := chk_not.1 h
            obtain ⟨ht, h⟩ := chk_not.1 h
            obtain ⟨hid, hn⟩ := chk_not.1 h
            obtain ⟨u, hn, hud, hum⟩ := splitV_elim hn
            obtain ⟨n, w', η', h1, h2, h3, h4⟩ := mapS_sound (p := ge σ.nx) hmap hR.hp (ge_self _) hf2 (fresh_ev hf1)
            refine Oper.wpIn_of (.inr (map_noDefer hmap)) ?_
            rw [hev, h1]
            have hle : ∀ j, ge σ.nx j = false → ge (σ.nx + 8) j = false := ge_mono (Nat.le_add_right ..)
            have hff := put_fresh (St.fresh_mono hle hf) (v := u) (by rw [hum, hfx.men]; exact hv) o.dst (lset σ.hp id lr) (σ.nx + 8) (Hp.fresh_eset (e := .loop lr) hid ht (Hp.fresh_mono hle hf2))
            rcases h2 with rfl | ⟨rfl, hu⟩
            · have := hN _ _ _ _ hn (hR.step (nx' := σ.nx + 8) hf1 hf3 h4 h3 o.dst u) h4 (Nat.le_add_right ..) hff
              rw [hud, hfx.den] at this
              exact this
            · have := hN _ _ _ _ hn (hR.step (nx' := σ.nx + 8) hf1 hf3 h4 h3 o.dst u) h4 (Nat.le_add_right ..) hff
              rw [hud, hfx.den, hu] at this
              exact this
          obtain ⟨e, hs, h⟩ := Res.all_sat h
          obtain ⟨hfe, hn⟩ := chk_iff.1 h
          obtain ⟨u, hn, hud, hum⟩ := splitV_elim hn
          obtain ⟨n, w', η', h1, h2, h3, h4⟩ := memOp_sound (p := ge σ.nx) hs hR.hp (ge_self _) hf2 (fun x _ => fresh_ev hf1 x)
          refine Oper.wpIn_of (.inr (mem_noDefer hs)) ?_
          rw [hev, h1]
          simp only [Eff.fresh, Bool.and_eq_true, Bool.not_eq_true'] at hfe
          have hle : ∀ j, ge σ.nx j = false → ge (σ.nx + 8) j = false := ge_mono (Nat.le_add_right ..)
          have hff := put_fresh (St.fresh_mono hle hf) (v := u) (by rw [hum, hfx.men]; exact hfe.1) o.dst (hsets σ.hp e.sets) (σ.nx + 8) (hsets_fresh (Hp.fresh_mono hle hf2) hfe.2)
          rcases h2 with rfl | ⟨rfl, hu⟩
          · have := hN _ _ _ _ hn (hR.step (nx' := σ.nx + 8) hf1 hf3 h4 h3 o.dst u) h4 (Nat.le_add_right ..) hff
            rw [hud, hfx.den] at this
            exact this
          · have := hN _ _ _ _ hn (hR.step (nx' := σ.nx + 8) hf1 hf3 h4 h3 o.dst u) h4 (Nat.le_add_right ..) hff
            rw [hud, hfx.den, hu] at this
            exact this
  · rename_i r' hnf
    obtain ⟨e, hs, h⟩ := Res.all_sat h
    obtain ⟨hfe, hn⟩ := chk_not.1 h
    obtain ⟨u, hn, hud, hum⟩ := splitV_elim hn
    obtain ⟨h1, h2⟩ := pureOp_sound (η := η) (w := w) hs
    refine Oper.wpIn_of (.inr (pure_noDefer hs)) ?_
    rw [hev, h2]
    simp only [Oper.uponIn]
    refine hN _ _ _ _ hn ?_ (η.like_refl _) (Nat.le_refl _) ?_
    · have := hR.put o.dst u
      unfold St.app
      rw [hud, hfx.den] at this
      simp only [h1]
      exact this
    · unfold St.app
      simp only [h1]
      exact put_fresh hf (by rw [hum, hfx.men]; exact hfe) o.dst σ.hp σ.nx hf2

theorem symOps_sound {GB : Base → Prop} {fx : SV → SV} (hfx : FixOk fx) {rd : Bool} {r : Option Nat} (hrd : r.isSome = rd) {call : CallS} (hcall : call.ok P GB) {B : Base} (hB : GB B) {ops : Array Oper} {K : SExit → St → Prop} {Q : Exit → Act → World → Prop} : ∀ (l : List Nat) (σ : St) (η : Env) (a : Act) (w : World),
    symOps P fx rd call ops K l σ → Rep B η σ a w → σ.fresh (ge σ.nx) = true → (∀ e a' w', RPost B η σ.nx K e a' w' → Q e a' w') → wpOpsIn (FR r) 0 P ops Q l a w
  | [], σ, η, a, w, h, hR, hf, hQ => hQ _ _ _ ⟨.normal, σ, η, h, rfl, hR, η.like_refl _, Nat.le_refl _, hf, rfl⟩
  | i :: rest, σ, η, a, w, h, hR, hf, hQ => by
    simp only [symOps] at h
    simp only [wpOpsIn]
    cases ho : ops[i]? with
    | none => rw [ho] at h; exact symOps_sound hfx hrd hcall hB rest σ η a w h hR hf hQ
    | some o =>
      rw [ho] at h
      simp only at h ⊢
      have hW := wantS_sound (ops := ops) (o := o) hR
      have hput : Rep B η (σ.put o.dst undefS) (a.put o.dst undef) w := hR.put o.dst undefS
      have hskip : symOps P fx rd call ops K rest (σ.put o.dst undefS) → wpOpsIn (FR r) 0 P ops Q rest (a.put o.dst undef) w := fun h' =>
        symOps_sound hfx hrd hcall hB rest _ η _ w h' hput (put_fresh hf rfl o.dst σ.hp σ.nx (fresh_tm hf).2.1) hQ
      have hrun : symOp P fx rd call (fun _ => isGuard ops i) o σ (symOps P fx rd call ops K rest) K → o.wpIn (FR r) 0 P a w (wpOpsIn (FR r) 0 P ops Q rest) Q := fun h' =>
        symOp_sound hfx hrd hcall hB h' hR hf hQ fun σ' η' a' w' hn hR' hl hnx hf' =>
          symOps_sound hfx hrd hcall hB rest σ' η' a' w' hn hR' hf' fun e a'' w'' hp => hQ e a'' w'' (hp.mono hl hnx)
      cases hw : wantS ops σ o with
      | yes => rw [hw] at h; rw [if_pos (hW.1 hw)]; exact hrun h
      | no => rw [hw] at h; rw [if_neg (by rw [hW.2.1 hw]; simp)]; exact ⟨fun _ _ => trivial, hskip h⟩
      | ask b want =>
        rw [hw] at h
        rw [hW.2.2 b want hw]
        by_cases hb : b = want
        · rw [if_pos (by simpa using hb)]; exact hrun (h.1 hb)
        · rw [if_neg (by simpa using hb)]; exact ⟨fun _ _ => trivial, hskip (h.2 hb)⟩
      | bad => rw [hw] at h; exact h.elim
end
end Go.Sx
