import Derived.Test.YtmeebemkoakkmaaGreatDoorSxP
import Derived.RangeFuncLeaves
import Derived.RecoverIn
set_option linter.all false
/-
  Code; functions.
-/
noncomputable section
namespace Go.Sx
open Go

abbrev SK := SExit → St → Prop

/-- what may be known at a loop's head: α, what holds, a measure, the slots, the blocks (the number: from there on 64 names are free) -/
structure Form where
  α : Type
  inv : α → Prop
  μ : α → Nat
  slots : Nat → α → List (Nat × SV)
  blks : Nat → α → List (Nat × Blk)
/-- a loop's head: in one of these forms, in the first one at the start; junk: the slots that are turned and of which nothing is known -/
structure Hint where
  form0 : Form
  forms : List Form
  junk : List Nat

def setTm : List SV → List (Nat × SV) → List SV
  | l, [] => l
  | l, (t, v) :: r => setTm (l.set t v) r
def setHp : Hp → List (Nat × Blk) → Hp
  | h, [] => h
  | h, (i, b) :: r => setHp (hset h i (some b)) r

def headS (junk : List Nat) (σ : St) (slots : List (Nat × SV)) (blks : List (Nat × Blk)) : St :=
  { tm := setTm (setTm σ.tm (junk.map fun t => (t, SV.jk (σ.nx + t)))) slots, hp := setHp σ.hp blks, nx := σ.nx + σ.tm.length + 64, df := σ.df }

/-- the same value -/
def simV : SV → SV → Prop
  | .lit k n, .int k' m => k = k' ∧ n = m
  | .int k n, .int k' m => k = k' ∧ n = m
  | .int k n, .lit k' m => k = k' ∧ n = m
  | .lb b, .bool c => b = c
  | .bool b, .bool c => b = c
  | .str s, .str t => s = t
  | .sl i o l c, .sl j p m d => i = j ∧ o = p ∧ l = m ∧ c = d
  | v, u => v = u
theorem simV_den {η : Env} {v u : SV} (h : simV v u) : v.den η = u.den η := by
  unfold simV at h
  split at h
  · obtain ⟨rfl, rfl⟩ := h; rfl
  · obtain ⟨rfl, rfl⟩ := h; rfl
  · obtain ⟨rfl, rfl⟩ := h; rfl
  · subst h; rfl
  · subst h; rfl
  · subst h; rfl
  · obtain ⟨rfl, rfl, rfl, rfl⟩ := h; rfl
  · subst h; rfl
def simVs : List SV → List SV → Prop
  | [], [] => True
  | v :: vs, u :: us => simV v u ∧ simVs vs us
  | _, _ => False
theorem simVs_den {η : Env} : ∀ {vs us : List SV}, simVs vs us → dens η vs = dens η us
  | [], [], _ => rfl
  | v :: vs, u :: us, h => by rw [dens, dens, simV_den h.1, simVs_den h.2]
  | [], _ :: _, h => h.elim
  | _ :: _, [], h => h.elim
def simO : SO → SO → Prop
  | .ints k xs, .ints k' ys => k = k' ∧ xs = ys
  | .strs xs, .strs ys => xs = ys
  | .cells vs, .cells us => simVs vs us
  | .recs a vs, .recs b us => a = b ∧ simVs vs us
  | _, _ => False
theorem simO_rep {η : Env} {a b : SO} (h : simO a b) {cp : Nat} {l : List Value} (hr : a.rep η cp l) : b.rep η cp l := by
  unfold simO at h
  split at h
  · obtain ⟨rfl, rfl⟩ := h; exact hr
  · subst h; exact hr
  · simp only [SO.rep] at hr ⊢; rw [← simVs_den h]; exact hr
  · obtain ⟨rfl, h⟩ := h; simp only [SO.rep] at hr ⊢; rw [← simVs_den h]; exact hr
  · exact h.elim
def simB (a b : Blk) : Prop := (b.rw = true → a.rw = true) ∧ (b.kc = none ∨ b.kc = a.kc) ∧ simO a.so b.so

/-! blocks under other names -/
abbrev Ren := List (Nat × Nat)
def renOf : Ren → Nat → Nat
  | [], j => j
  | (a, b) :: r, j => if a = j then b else renOf r j
mutual
def SV.ren (m : Nat → Nat) : SV → SV
  | .ptr id o => .ptr (m id) o
  | .pti id o sz n i => .pti (m id) o sz n i
  | .sl id o l c => .sl (m id) o l c
  | .fn f x c => .fn f (rens m x) (rens m c)
  | .iface t v => .iface t (v.ren m)
  | .agg cs => .agg (rens m cs)
  | .tup vs => .tup (rens m vs)
  | .yl i => .yl (m i)
  | .mref i => .mref (m i)
  | v => v
def rens (m : Nat → Nat) : List SV → List SV
  | [] => []
  | v :: vs => v.ren m :: rens m vs
end
def SO.ren (m : Nat → Nat) : SO → SO
  | .cells cs => .cells (rens m cs)
  | .recs sz cs => .recs sz (rens m cs)
  | so => so
def Blk.ren (m : Nat → Nat) (b : Blk) : Blk := { b with so := b.so.ren m }
def Env.via (η : Env) (m : Nat → Nat) : Env := ⟨fun j => η.adr (m j), fun j => η.cap (m j), η.jk⟩
mutual
theorem SV.den_via (η : Env) (m : Nat → Nat) : ∀ v : SV, v.den (η.via m) = (v.ren m).den η
  | .lit .. | .int .. | .lb _ | .bool _ | .str _ | .nilp | .nils | .nilf | .nili | .val _ | .jk _ => rfl
  | .ptr id o => rfl
  | .pti .. => rfl
  | .yl i => rfl
  | .mref i => rfl
  | .sl id o l c => by cases c <;> rfl
  | .fn f x c => by rw [SV.den, SV.ren, SV.den, dens_via η m x, dens_via η m c]
  | .iface t v => by rw [SV.den, SV.ren, SV.den, SV.den_via η m v]
  | .agg cs => by rw [SV.den, SV.ren, SV.den, dens_via η m cs]
  | .tup cs => by rw [SV.den, SV.ren, SV.den, dens_via η m cs]
theorem dens_via (η : Env) (m : Nat → Nat) : ∀ vs : List SV, dens (η.via m) vs = dens η (rens m vs)
  | [] => rfl
  | v :: vs => by rw [dens, rens, dens, SV.den_via η m v, dens_via η m vs]
end
theorem SO.rep_via {η : Env} {m : Nat → Nat} {so : SO} {cp : Nat} {l : List Value} (h : (so.ren m).rep η cp l) : so.rep (η.via m) cp l := by
  cases so with
  | cells cs => simp only [SO.ren, SO.rep] at h ⊢; rw [dens_via]; exact h
  | ints k xs => exact h
  | strs xs => exact h
  | recs sz cs => simp only [SO.ren, SO.rep] at h ⊢; rw [dens_via]; exact h

/-- which block of the one (u) is which of the other (v) -/
def pairV : SV → SV → Ren
  | .ptr i _, .ptr j _ => [(j, i)]
  | .pti i _ _ _ _, .pti j _ _ _ _ => [(j, i)]
  | .sl i _ _ _, .sl j _ _ _ => [(j, i)]
  | _, _ => []
def pairVs : List SV → List SV → Ren
  | v :: vs, u :: us => pairV v u ++ pairVs vs us
  | _, _ => []
def pairSlots (tm : List SV) : List (Nat × SV) → Ren
  | [] => []
  | (t, v) :: r => (match tm[t]? with | some u => pairV u v | none => []) ++ pairSlots tm r
def pairBlks (hp : Hp) (m : Ren) : List (Nat × Blk) → Ren
  | [] => []
  | (i, b) :: r => (match hget hp (renOf m i) with
    | some a => match a.so, b.so with
      | .cells vs, .cells us => pairVs vs us
      | .recs _ vs, .recs _ us => pairVs vs us
      | _, _ => []
    | none => []) ++ pairBlks hp m r
def pairs (σ : St) (slots : List (Nat × SV)) (blks : List (Nat × Blk)) : Ren :=
  let m := pairSlots σ.tm slots
  m ++ pairBlks σ.hp m blks

def slotsOk (m : Nat → Nat) (tm : List SV) : List (Nat × SV) → Prop
  | [] => True
  | (t, v) :: r => (match tm[t]? with | some u => simV u (v.ren m) | none => False) ∧ slotsOk m tm r
def blksOk (m : Nat → Nat) (hp : Hp) : List (Nat × Blk) → Prop
  | [] => True
  | (i, b) :: r => (match hget hp (m i) with | some a => simB a (b.ren m) | none => False) ∧ blksOk m hp r
def blank (l : List SV) : List Nat → List SV
  | [] => l
  | t :: r => blank (l.set t undefS) r
/-- the blocks of the one that stand in the other as well, but for some -/
def others (ids : List Nat) (hp : Hp) : Hp → List (Option Blk)
  | [] => []
  | (i, _) :: r => (if ids.contains i then none else hget hp i) :: others ids hp r
def dropHp : Hp → Ren → Hp
  | h, [] => h
  | h, (j, i) :: r => if i = j then dropHp h r else dropHp (hset h i none) r

/-- the loops' records stand as they stood -/
def lsame (hp : Hp) : Hp → Prop
  | [] => True
  | (i, .loop r) :: t => lget hp i = some r ∧ lsame hp t
  | (_, .dead) :: t => lsame hp t
  | (_, .blk _) :: t => lsame hp t
theorem lsame_get {hp : Hp} : ∀ {h : Hp} {i : Nat} {r : LRec}, lsame hp h → lget h i = some r → lget hp i = some r
  | [], _, _, _, hg => by cases hg
  | (j, .loop r') :: t, i, r, h, hg => by
    simp only [lget] at hg
    split at hg
    · rename_i e; subst e; simp only [Ent.toL, Option.some.injEq] at hg; subst hg; exact h.1
    · exact lsame_get h.2 hg
  | (j, .dead) :: t, i, r, h, hg => by
    simp only [lget] at hg
    split at hg
    · cases hg
    · exact lsame_get (h := t) h hg
  | (j, .blk _) :: t, i, r, h, hg => by
    simp only [lget] at hg
    split at hg
    · cases hg
    · exact lsame_get (h := t) h hg

def nodupB : List Nat → Bool
  | [] => true
  | x :: r => !r.contains x && nodupB r
def liveKeys : Hp → List Nat
  | [] => []
  | (i, .blk _) :: r => i :: liveKeys r
  | (_, .dead) :: r => liveKeys r
  | (_, .loop _) :: r => liveKeys r

/-- the names are apart, and elder blocks keep theirs -/
def mid (a b : Nat) : Nat → Bool := fun j => decide (a ≤ j) && decide (j < b)
def renB (nx len : Nat) (m : Ren) (hp : Hp) (slots : List (Nat × SV)) (blks : List (Nat × Blk)) : Bool :=
  m.all (fun x => decide (nx ≤ x.1) || x.1 == x.2) && nodupB ((liveKeys hp).map (renOf m)) && !mens (mid nx (nx + len)) (slots.map (·.2)) && blks.all fun x => !x.2.so.men (mid nx (nx + len))

/-- σ' is in the form's state: σ: the state where the loop began -/
def endsIn (junk : List Nat) (σ σ' : St) (slots : List (Nat × SV)) (blks : List (Nat × Blk)) : Prop :=
  let m := pairs σ' slots blks
  blank σ'.tm (junk ++ slots.map (·.1)) = blank σ.tm (junk ++ slots.map (·.1)) ∧ others (blks.map (·.1)) σ'.hp σ.hp = others (blks.map (·.1)) σ.hp σ.hp ∧ lsame σ'.hp σ.hp ∧ σ'.df = σ.df ∧
    renB σ.nx σ.tm.length m (setHp σ.hp blks) slots blks = true ∧ slotsOk (renOf m) σ'.tm slots ∧ blksOk (renOf m) σ'.hp blks

def endsAny (junk : List Nat) (σ σ' : St) (before : Nat) : List Form → Prop
  | [] => False
  | [F] => ∃ x, F.inv x ∧ F.μ x < before ∧ endsIn junk σ σ' (F.slots (σ.nx + σ.tm.length) x) (F.blks (σ.nx + σ.tm.length) x)
  | F :: r => (∃ x, F.inv x ∧ F.μ x < before ∧ endsIn junk σ σ' (F.slots (σ.nx + σ.tm.length) x) (F.blks (σ.nx + σ.tm.length) x)) ∨ endsAny junk σ σ' before r

def allForms : List Form → (Form → Prop) → Prop
  | [], _ => True
  | [F], p => p F
  | F :: r, p => p F ∧ allForms r p
theorem allForms_mem : ∀ {l : List Form} {p : Form → Prop}, allForms l p → ∀ F ∈ l, p F
  | [F], p, h, G, hG => by rw [List.mem_singleton] at hG; subst hG; exact h
  | F :: G :: r, p, h, F', hF => by
    rcases List.mem_cons.1 hF with rfl | hF
    · exact h.1
    · exact allForms_mem h.2 F' hF
theorem endsAny_mem {junk : List Nat} {σ σ' : St} {before : Nat} : ∀ {l : List Form}, endsAny junk σ σ' before l → ∃ F ∈ l, ∃ x, F.inv x ∧ F.μ x < before ∧ endsIn junk σ σ' (F.slots (σ.nx + σ.tm.length) x) (F.blks (σ.nx + σ.tm.length) x)
  | [F], h => ⟨F, List.mem_cons_self .., h⟩
  | F :: G :: r, h => by
    rcases h with h | h
    · exact ⟨F, List.mem_cons_self .., h⟩
    · obtain ⟨F', hm, h'⟩ := endsAny_mem (l := G :: r) h
      exact ⟨F', List.mem_cons_of_mem _ hm, h'⟩

/-- the state where a loop begins, without the blocks that bear another name in it -/
def baseS (σ : St) (m : Ren) : St := { σ with hp := dropHp σ.hp m }

def resL (P : Program) (σ : St) : List ResultVar → Option (List SV × List Ob)
  | [] => some ([], [])
  | .tmp t :: r => match resL P σ r with
    | some (vs, o) => some (σ.ev (.tmp t) :: vs, o)
    | none => none
  | .cell a t :: r => match loadS P t (σ.ev (.tmp a)) (hget σ.hp), resL P σ r with
    | .one e, some (vs, o) => some (e.val :: vs, e.obl ++ o)
    | _, _ => none
def resV (vs : List SV) : SV := match vs with
  | [v] => v
  | vs => .tup vs

def Hfun := Nat → Option Hint
def noHints : Hfun := fun _ => none

/-- the marks of the loops behind are taken -/
def dropMarks : List Dfr → Hp → Option Hp
  | [], hp => some hp
  | .mark id :: r, hp => match lget hp id with
    | some lr => if lr.mp then none else dropMarks r (eset hp id .dead)
    | none => none
  | .clo _ _ :: _, _ => none

/-- what nobody reaches behind a call -/
def gcHp (n0 : Nat) (v : SV) (hp : Hp) : Hp :=
  let old := hp.filter fun x => decide (x.1 < n0)
  if !v.men (ge n0) && Hp.fresh (ge n0) old then old else hp

def retS (P : Program) (fn : Func) (n0 : Nat) (K : CExit → Hp → Nat → Prop) (df : List Dfr) (σ : St) : Prop :=
  match dropMarks df σ.hp with
  | none => False
  | some hp => match resL P { σ with hp := hp } fn.results.toList with
    | some (vs, o) => withObl o (chk (!(resV vs).men (ge σ.nx)) <| K (.ret (resV vs)) (gcHp n0 (resV vs) hp) σ.nx)
    | none => False

/-- operations that turn no memory and ask nothing -/
def pureRun (P : Program) (ops : Array Oper) : List Nat → St → Option St
  | [], σ => some σ
  | i :: r, σ => match ops[i]? with
    | some o => match o.guard, pureOp P σ.ev o.op with
      | none, .one ⟨[], v, []⟩ => if v.men (ge σ.nx) then none else pureRun P ops r { σ with tm := match o.dst with | some d => σ.tm.setN d v | none => σ.tm }
      | _, _ => none
    | none => none

def isRecover : Op → Bool
  | .call { callee := .builtin .recover, args, .. } => args.size == 0
  | _ => false

/-- a deferred call: pv: what recover yields -/
def dcloS (P : Program) (sC : Bool → Code → St → SK → Prop) (f : FuncId) (caps : List SV) (pv : SV) (σ : St) (k : St → Prop) : Prop :=
  match P.funcs[f]? with
  | some fn => match fn.body with
    | some (.seq (.region _ ops false) rest) => chk (!(fn.name == "runtime.NumGoroutine")) <| chk fn.results.isEmpty <| match ops[0]? with
      | some o => chk (isRecover o.op) <| chk o.guard.isNone <|
          let σ0 : St := { tm := caps ++ List.replicate (fn.ntmps - caps.length) undefS, hp := σ.hp, nx := σ.nx, df := [] }
          match pureRun P ops (List.range' 1 (ops.size - 1)) { σ0 with tm := match o.dst with | some d => σ0.tm.setN d pv | none => σ0.tm } with
          | some σ1 => sC false rest σ1 fun e σ2 => match e with
            | .normal => chk σ2.df.isEmpty <| k { σ with hp := σ2.hp, nx := σ2.nx }
            | .ret => chk σ2.df.isEmpty <| k { σ with hp := σ2.hp, nx := σ2.nx }
            | .exit _ => False
            | .panic _ => False
          | none => False
      | none => False
    | _ => False
  | none => False

/-- a function's end -/
def endS (P : Program) (sC : Bool → Code → St → SK → Prop) (fn : Func) (n0 : Nat) (K : CExit → Hp → Nat → Prop) (e : SExit) (σ : St) : Prop :=
  match e with
  | .normal => match σ.df with
    | .clo f caps :: df => dcloS P sC f caps .nili σ (retS P fn n0 K df)
    | df => retS P fn n0 K df σ
  | .ret => match σ.df with
    | .clo f caps :: df => dcloS P sC f caps .nili σ (retS P fn n0 K df)
    | df => retS P fn n0 K df σ
  | .panic v => match σ.df with
    | .clo f caps :: df => dcloS P sC f caps v σ (retS P fn n0 K df)
    | df => match dropMarks df σ.hp with
      | some hp => K (.panic v) hp σ.nx
      | none => False
  | .exit _ => False

def enterS (fn : Func) (vs : List SV) (hp : Hp) (nx : Nat) : St := { tm := vs ++ List.replicate (fn.ntmps - vs.length) undefS, hp, nx, df := [] }

/-- a function, entered -/
def enterC (P : Program) (sC : Bool → Code → St → SK → Prop) (f : FuncId) (vs : List SV) (hp : Hp) (nx : Nat) (K : CExit → Hp → Nat → Prop) : Prop :=
  match P.funcs[f]? with
  | some fn => match fn.body with
    | some c => chk (!(fn.name == "runtime.NumGoroutine")) <| sC false c (enterS fn vs hp nx) (endS P sC fn nx K)
    | none => False
  | none => False

def setPs : List SV → List Tmp → List SV → List SV
  | tm, p :: ps, v :: vs => setPs (tm.setN p v) ps vs
  | tm, _, _ => tm

/-- a round of a loop over a function -/
def roundS (sC : Bool → Code → St → SK → Prop) (id : Nat) (vs : List SV) (hp : Hp) (nx : Nat) (K : CExit → Hp → Nat → Prop) : Prop :=
  match lget hp id with
  | none => False
  | some r => chk (!r.mp) <| chk (decide (r.st = .ready)) <| chk (decide (vs.length = r.ps.size)) <| sC true r.asg { tm := setPs r.tm r.ps.toList vs, hp, nx, df := [] } fun e σ1 => match e with
    | .normal => match lget σ1.hp id with
      | none => False
      | some r1 => chk (!r1.mp) <| chk (decide (r1.st = .ready)) <| sC true r.body { σ1 with hp := lset σ1.hp id { r1 with st := .busy } } fun e σ2 => match lget σ2.hp id with
        | none => False
        | some r2 => chk (!r2.mp) <| match e with
          | .normal => K (.ret (.lb true)) (lset σ2.hp id { r2 with st := .ready, pend := none }) σ2.nx
          | .ret => K (.ret (.lb false)) (lset σ2.hp id { r2 with st := .done, pend := some .ret }) σ2.nx
          | .exit k => K (.ret (.lb false)) (lset σ2.hp id { r2 with st := .done, pend := some (.exit k) }) σ2.nx
          | .panic _ => False
    | .ret => False
    | .exit _ => False
    | .panic _ => False

def inlineS (P : Program) (Γ : Ctab) (sC : Bool → Code → St → SK → Prop) : CallS := fun f vs hp nx K =>
  match f with
  | .yl id => roundS sC id vs hp nx K
  | .fn f => match Γ f with
    | some C => (C.res nx (hget hp) vs).all fun e => chk (e.fresh (ge (nx + 1048576))) <| K (.ret e.val) (hsets hp e.sets) (nx + 1048576)
    | none => enterC P sC f vs hp nx K

/-- a loop over a function -/
def rangeS (P : Program) (sC : Bool → Code → St → SK → Prop) (g : Operand) (ps : Array Tmp) (asg body : Code) (σ : St) (K : SK) : Prop :=
  match σ.ev g with
  | .fn (.func gf) first caps => enterC P sC gf (first ++ [.yl σ.nx] ++ caps) (lset σ.hp σ.nx ⟨false, .ready, none, σ.tm, ps, asg, body⟩) (σ.nx + 1) fun x hp' nx' => match x with
    | .ret _ => match lget hp' σ.nx with
      | none => False
      | some r => chk (!r.mp) <| chk (!decide (r.st = .busy)) <| match r.pend with
        | none => K .normal { tm := σ.tm, hp := lset hp' σ.nx { r with st := .exhausted }, nx := nx', df := .mark σ.nx :: σ.df }
        | some .ret => K .ret { tm := σ.tm, hp := lset hp' σ.nx { r with st := .exhausted }, nx := nx', df := .mark σ.nx :: σ.df }
        | some (.exit k) => K (.exit k) { tm := σ.tm, hp := lset hp' σ.nx { r with st := .exhausted }, nx := nx', df := .mark σ.nx :: σ.df }
        | some _ => False
    | .panic v => K (.panic v) { tm := σ.tm, hp := hp', nx := nx', df := .mark σ.nx :: σ.df }
  | _ => False

def symC (P : Program) (fx : SV → SV) (Γ Δ : Ctab) : Nat → Hfun → Bool → Code → St → SK → Prop
  | 0 => fun _ _ _ _ _ => False
  | n + 1 => fun H rd c σ K => match c with
    | .skip => K .normal σ
    | .ret => K .ret σ
    | .exit id => K (.exit id) σ
    | .label _ => K .normal σ
    | .seq a b => symC P fx Γ Δ n H rd a σ fun e σ' => match e with
      | .normal => symC P fx Γ Δ n H rd b σ' K
      | .exit id => K (.exit id) σ'
      | .ret => K .ret σ'
      | .panic v => K (.panic v) σ'
    | .cond x a b => match σ.ev x with
      | .lb true => symC P fx Γ Δ n H rd a σ K
      | .lb false => symC P fx Γ Δ n H rd b σ K
      | .bool t => (t = true → symC P fx Γ Δ n H rd a σ K) ∧ (t = false → symC P fx Γ Δ n H rd b σ K)
      | _ => False
    | .scope b => chk (!rd) <| symC P fx Γ Δ n H rd b σ K
    | .block id b =>
      let K' : SK := fun e σ' => match e with
        | .exit id' => if id' = id then K .normal σ' else K (.exit id') σ'
        | .normal => K .normal σ'
        | .ret => K .ret σ'
        | .panic v => K (.panic v) σ'
      match H id, b with
      | some h, .loop c => ∃ x0, h.form0.inv x0 ∧
          let σb := baseS σ (pairs σ (h.form0.slots (σ.nx + σ.tm.length) x0) (h.form0.blks (σ.nx + σ.tm.length) x0))
          endsIn h.junk σb σ (h.form0.slots (σ.nx + σ.tm.length) x0) (h.form0.blks (σ.nx + σ.tm.length) x0) ∧ St.fresh (ge σ.nx) σb = true ∧
          allForms (h.form0 :: h.forms) fun F => ∀ x, F.inv x → St.fresh (ge (σ.nx + σ.tm.length + 64)) (headS h.junk σb (F.slots (σ.nx + σ.tm.length) x) (F.blks (σ.nx + σ.tm.length) x)) = true ∧
            symC P fx Γ Δ n H rd c (headS h.junk σb (F.slots (σ.nx + σ.tm.length) x) (F.blks (σ.nx + σ.tm.length) x)) fun e σ' => match e with
            | .normal => endsAny h.junk σb σ' (F.μ x) (h.form0 :: h.forms)
            | .exit id' => if id' = id then K .normal σ' else K (.exit id') σ'
            | .ret => K .ret σ'
            | .panic v => K (.panic v) σ'
      | _, _ => symC P fx Γ Δ n H rd b σ K'
    | .loop b => symC P fx Γ Δ n H rd b σ fun e σ' => match e with
      | .normal => symC P fx Γ Δ n H rd (.loop b) σ' K
      | .exit id => K (.exit id) σ'
      | .ret => K .ret σ'
      | .panic v => K (.panic v) σ'
    | .region _ ops draw => if draw then symDraw P fx Γ ops K σ else symOps P fx rd (inlineS P Δ (symC P fx Γ Δ n noHints)) ops K (List.range ops.size) σ
    | .rangeFunc g ps asg body => chk (!rd) <| rangeS P (symC P fx Γ Δ n noHints) g ps asg body σ K
    | _ => False
end Go.Sx
