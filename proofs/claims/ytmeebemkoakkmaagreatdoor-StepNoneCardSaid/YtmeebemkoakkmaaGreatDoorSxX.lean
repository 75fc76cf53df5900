import Derived.Test.YtmeebemkoakkmaaGreatDoorSxRg
set_option linter.all false
/-
  The walk of what is all known: one way, no questions.
-/
noncomputable section
namespace Go.Sx
open Go

def resB : Res → Option Eff
  | .fail => none
  | .one e => if e.obl.all Ob.yes then some e else none
  | .alt c e r => if c.yes then (if e.obl.all Ob.yes then some e else none) else resB r
theorem yes_all {l : List Ob} (h : l.all Ob.yes = true) : ∀ p ∈ l, p := fun p hp => (Ob.yes_iff p).1 (List.all_eq_true.1 h p hp)
theorem resB_sat : ∀ {r : Res} {e : Eff}, resB r = some e → r.sat e
  | .one e, e', h => by
    simp only [resB] at h
    split at h
    · rename_i ho; simp only [Option.some.injEq] at h; subst h; exact ⟨rfl, yes_all ho⟩
    · cases h
  | .alt c e r, e', h => by
    simp only [resB] at h
    split at h
    · rename_i hc
      split at h
      · rename_i ho; simp only [Option.some.injEq] at h; subst h; exact .inl ⟨(Ob.yes_iff c).1 hc, rfl, yes_all ho⟩
      · cases h
    · rename_i hc
      exact .inr ⟨fun hp => hc ((Ob.yes_iff c).2 hp), resB_sat h⟩
theorem all_of {r : Res} {K : Eff → Prop} {e : Eff} : r.sat e → K e → r.all K := fun hs hK => by
  induction r with
  | fail => exact hs.elim
  | one e0 =>
    obtain ⟨rfl, ho⟩ := hs
    rw [Res.all, withObl_iff]; exact ⟨ho, hK⟩
  | alt c e0 r ih =>
    rcases hs with ⟨hc, rfl, ho⟩ | ⟨hc, hs⟩
    · exact ⟨fun _ => (withObl_iff _ _).2 ⟨ho, hK⟩, fun h => absurd hc h⟩
    · exact ⟨fun h => absurd h hc, fun _ => ih hs⟩

abbrev CallR := Callee → List SV → Hp → Nat → Option (CExit × Hp × Nat)

def runOp (P : Program) (rd : Bool) (call : CallR) (o : Oper) (σ : St) : Option (SExit × St) :=
  match pureOp P σ.ev o.op with
  | .fail =>
    match panicS σ.ev o.op with
    | some v => some (.panic v, σ)
    | none =>
      match calleeS σ.ev o.op with
      | some (f, vs) => match call f vs σ.hp σ.nx with
        | some (.ret v, hp', nx') => some (.normal, { tm := match o.dst with | some d => σ.tm.setN d v.lit' | none => σ.tm, hp := hp', nx := nx', df := σ.df })
        | some (.panic v, hp', nx') => some (.panic v, { σ with hp := hp', nx := nx' })
        | none => none
      | none => match deferS σ.ev o.op with
        | some d => if rd then none else some (.normal, { tm := match o.dst with | some d => σ.tm.setN d undefS | none => σ.tm, hp := σ.hp, nx := σ.nx, df := d :: σ.df })
        | none => match mapS P σ.ev (lget σ.hp) σ.nx o.op with
          | some (v, id, r) => if v.men (ge (σ.nx + 8)) || mens (ge (σ.nx + 8)) r.tm || ge (σ.nx + 8) id then none else some (.normal, { tm := match o.dst with | some d => σ.tm.setN d v.lit' | none => σ.tm, hp := lset σ.hp id r, nx := σ.nx + 8, df := σ.df })
          | none => match resB (memOp P σ.ev (hget σ.hp) σ.nx o.op) with
          | some e => if e.fresh (ge (σ.nx + 8)) then some (.normal, { σ.app o.dst { e with val := e.val.lit' } with nx := σ.nx + 8 }) else none
          | none => none
  | r => match resB r with
    | some e => if e.val.men (ge σ.nx) then none else some (.normal, σ.app o.dst { e with val := e.val.lit' })
    | none => none

def runOps (P : Program) (rd : Bool) (call : CallR) (ops : Array Oper) : List Nat → St → Option (SExit × St)
  | [], σ => some (.normal, σ)
  | i :: rest, σ => match ops[i]? with
    | none => runOps P rd call ops rest σ
    | some o => match wantS ops σ o with
      | .yes => match runOp P rd call o σ with
        | some (.normal, σ') => runOps P rd call ops rest σ'
        | some (.panic v, σ') => some (.panic v, σ')
        | _ => none
      | .no => runOps P rd call ops rest (σ.put o.dst undefS)
      | _ => none

def runD (P : Program) (Γ : Ctab) (ops : Array Oper) (k0 : Nat) : List Nat → List SR → St → Option (List SR × St)
  | [], E, σ => some (E, σ)
  | i :: rest, E, σ => match ops[i]? with
    | none => none
    | some o => match wantS ops σ o with
      | .yes => match resB (opX P SV.lit' Γ σ.ev (hget σ.hp) (k0 + 1048576 * i) o.op) with
        | some e => runD P Γ ops k0 rest (E ++ [⟨e, needD P Γ σ.ev (hget σ.hp) o.op, true, isFail (pureOp P σ.ev o.op)⟩]) (σ.app o.dst e)
        | none => none
      | .no => runD P Γ ops k0 rest (E ++ [SR.skip]) (σ.app o.dst SR.skip.e)
      | _ => none
def runDraw (P : Program) (Γ : Ctab) (ops : Array Oper) (σ : St) : Option (SExit × St) :=
  match runD P Γ ops σ.nx (List.range' 0 ops.size) [] σ with
  | some (E, σ') => if checkD ops σ.nx E then some (.normal, { σ' with nx := σ.nx + 1048576 * ops.size }) else none
  | none => none

abbrev RunC := Bool → Code → St → Option (SExit × St)

def retR (P : Program) (fn : Func) (n0 : Nat) (df : List Dfr) (σ : St) : Option (CExit × Hp × Nat) :=
  match dropMarks df σ.hp with
  | none => none
  | some hp => match resL P { σ with hp := hp } fn.results.toList with
    | some (vs, o) => if (resV vs).men (ge σ.nx) || !o.all Ob.yes then none else some (.ret (resV vs), gcHp n0 (resV vs) hp, σ.nx)
    | _ => none

def dcloR (P : Program) (rC : RunC) (f : FuncId) (caps : List SV) (pv : SV) (σ : St) : Option St :=
  match P.funcs[f]? with
  | some fn => match fn.body with
    | some (.seq (.region _ ops false) rest) => if (fn.name == "runtime.NumGoroutine") || !fn.results.isEmpty then none else match ops[0]? with
      | some o => if isRecover o.op && o.guard.isNone then
          let σ0 : St := { tm := caps ++ List.replicate (fn.ntmps - caps.length) undefS, hp := σ.hp, nx := σ.nx, df := [] }
          match pureRun P ops (List.range' 1 (ops.size - 1)) { σ0 with tm := match o.dst with | some d => σ0.tm.setN d pv | none => σ0.tm } with
          | some σ1 => match rC false rest σ1 with
            | some (.normal, σ2) => if σ2.df.isEmpty then some { σ with hp := σ2.hp, nx := σ2.nx } else none
            | some (.ret, σ2) => if σ2.df.isEmpty then some { σ with hp := σ2.hp, nx := σ2.nx } else none
            | _ => none
          | none => none
        else none
      | none => none
    | _ => none
  | none => none

def endR (P : Program) (rC : RunC) (fn : Func) (n0 : Nat) (e : SExit) (σ : St) : Option (CExit × Hp × Nat) :=
  match e with
  | .normal => match σ.df with
    | .clo f caps :: df => match dcloR P rC f caps .nili σ with | some σ' => retR P fn n0 df σ' | none => none
    | df => retR P fn n0 df σ
  | .ret => match σ.df with
    | .clo f caps :: df => match dcloR P rC f caps .nili σ with | some σ' => retR P fn n0 df σ' | none => none
    | df => retR P fn n0 df σ
  | .panic v => match σ.df with
    | .clo f caps :: df => match dcloR P rC f caps v σ with | some σ' => retR P fn n0 df σ' | none => none
    | df => match dropMarks df σ.hp with
      | some hp => some (.panic v, hp, σ.nx)
      | none => none
  | .exit _ => none

def enterR (P : Program) (rC : RunC) (f : FuncId) (vs : List SV) (hp : Hp) (nx : Nat) : Option (CExit × Hp × Nat) :=
  match P.funcs[f]? with
  | some fn => match fn.body with
    | some c => if fn.name == "runtime.NumGoroutine" then none else match rC false c (enterS fn vs hp nx) with
      | some (e, σ) => endR P rC fn nx e σ
      | none => none
    | none => none
  | none => none

def roundR (rC : RunC) (id : Nat) (vs : List SV) (hp : Hp) (nx : Nat) : Option (CExit × Hp × Nat) :=
  match lget hp id with
  | none => none
  | some r => if !r.mp && decide (r.st = .ready) && decide (vs.length = r.ps.size) then match rC true r.asg { tm := setPs r.tm r.ps.toList vs, hp, nx, df := [] } with
    | some (.normal, σ1) => match lget σ1.hp id with
      | none => none
      | some r1 => if !r1.mp && decide (r1.st = .ready) then match rC true r.body { σ1 with hp := lset σ1.hp id { r1 with st := .busy } } with
        | some (e, σ2) => match lget σ2.hp id with
          | none => none
          | some r2 => if r2.mp then none else match e with
            | .normal => some (.ret (.lb true), lset σ2.hp id { r2 with st := .ready, pend := none }, σ2.nx)
            | .ret => some (.ret (.lb false), lset σ2.hp id { r2 with st := .done, pend := some .ret }, σ2.nx)
            | .exit k => some (.ret (.lb false), lset σ2.hp id { r2 with st := .done, pend := some (.exit k) }, σ2.nx)
            | .panic _ => none
        | none => none
        else none
    | _ => none
    else none

def inlineR (P : Program) (Δ : Ctab) (rC : RunC) : CallR := fun f vs hp nx =>
  match f with
  | .yl id => roundR rC id vs hp nx
  | .fn f => match Δ f with
    | some C => match resB (C.res nx (hget hp) vs) with
      | some e => if e.fresh (ge (nx + 1048576)) then some (.ret e.val, hsets hp e.sets, nx + 1048576) else none
      | none => none
    | none => enterR P rC f vs hp nx

def rangeR (P : Program) (rC : RunC) (g : Operand) (ps : Array Tmp) (asg body : Code) (σ : St) : Option (SExit × St) :=
  match σ.ev g with
  | .fn (.func gf) first caps => match enterR P rC gf (first ++ [.yl σ.nx] ++ caps) (lset σ.hp σ.nx ⟨false, .ready, none, σ.tm, ps, asg, body⟩) (σ.nx + 1) with
    | some (.ret _, hp', nx') => match lget hp' σ.nx with
      | none => none
      | some r => if r.mp || decide (r.st = .busy) then none else match r.pend with
        | none => some (.normal, { tm := σ.tm, hp := lset hp' σ.nx { r with st := .exhausted }, nx := nx', df := .mark σ.nx :: σ.df })
        | some .ret => some (.ret, { tm := σ.tm, hp := lset hp' σ.nx { r with st := .exhausted }, nx := nx', df := .mark σ.nx :: σ.df })
        | some (.exit k) => some (.exit k, { tm := σ.tm, hp := lset hp' σ.nx { r with st := .exhausted }, nx := nx', df := .mark σ.nx :: σ.df })
        | some _ => none
    | some (.panic v, hp', nx') => some (.panic v, { tm := σ.tm, hp := hp', nx := nx', df := .mark σ.nx :: σ.df })
    | none => none
  | _ => none

def runC (P : Program) (Γ Δ : Ctab) : Nat → RunC
  | 0 => fun _ _ _ => none
  | n + 1 => fun rd c σ => match c with
    | .skip => some (.normal, σ)
    | .ret => some (.ret, σ)
    | .exit id => some (.exit id, σ)
    | .label _ => some (.normal, σ)
    | .seq a b => match runC P Γ Δ n rd a σ with
      | some (.normal, σ') => runC P Γ Δ n rd b σ'
      | x => x
    | .cond x a b => match σ.ev x with
      | .lb true => runC P Γ Δ n rd a σ
      | .lb false => runC P Γ Δ n rd b σ
      | _ => none
    | .scope b => if rd then none else runC P Γ Δ n rd b σ
    | .block id b => match runC P Γ Δ n rd b σ with
      | some (.exit id', σ') => if id' = id then some (.normal, σ') else some (.exit id', σ')
      | x => x
    | .loop b => match runC P Γ Δ n rd b σ with
      | some (.normal, σ') => runC P Γ Δ n rd (.loop b) σ'
      | x => x
    | .region _ ops draw => if draw then runDraw P Γ ops σ else runOps P rd (inlineR P Δ (runC P Γ Δ n)) ops (List.range ops.size) σ
    | .rangeFunc g ps asg body => if rd then none else rangeR P (runC P Γ Δ n) g ps asg body σ
    | _ => none

/-! the names that a value bears -/
mutual
def SV.ids : SV → List Nat
  | .ptr i _ => [i]
  | .sl i _ _ _ => [i]
  | .fn _ x c => idsL x ++ idsL c
  | .iface _ v => v.ids
  | .agg cs => idsL cs
  | .tup cs => idsL cs
  | .jk i => [i]
  | .yl i => [i]
  | .mref i => [i]
  | _ => []
def idsL : List SV → List Nat
  | [] => []
  | v :: vs => v.ids ++ idsL vs
end
def SO.ids : SO → List Nat
  | .cells cs => idsL cs
  | .recs _ cs => idsL cs
  | _ => []
def addN : List Nat → List Nat → List Nat
  | [], R => R
  | i :: l, R => if R.contains i then addN l R else addN l (R ++ [i])
def idsAt (g : Nat → Option Blk) (i : Nat) : List Nat := match g i with
  | some b => b.so.ids
  | none => []
/-- what is reached from some names -/
def reach (g : Nat → Option Blk) : Nat → List Nat → List Nat
  | 0, R => R
  | k + 1, R => reach g k (addN (R.flatMap (idsAt g)) R)
def hpOf (g : Nat → Option Blk) : List Nat → Hp
  | [] => []
  | i :: l => match g i with
    | some b => (i, .blk b) :: hpOf g l
    | none => hpOf g l

/-! the same, to the letter -/
mutual
def SV.same : SV → SV → Bool
  | .lit k n, .lit k' m => k == k' && n == m
  | .lb a, .lb b => a == b
  | .str a, .str b => a == b
  | .ptr i o, .ptr j p => i == j && o == p
  | .nilp, .nilp => true
  | .sl i o l (.known c), .sl j p m (.known d) => i == j && o == p && l == m && c == d
  | .sl i o l .free, .sl j p m .free => i == j && o == p && l == m
  | .nils, .nils => true
  | .fn (.func f) x c, .fn (.func g) y d => f == g && sames x y && sames c d
  | .nilf, .nilf => true
  | .nili, .nili => true
  | .iface t v, .iface u x => t == u && v.same x
  | .agg a, .agg b => sames a b
  | .tup a, .tup b => sames a b
  | _, _ => false
def sames : List SV → List SV → Bool
  | [], [] => true
  | v :: vs, u :: us => v.same u && sames vs us
  | _, _ => false
end
def SO.same : SO → SO → Bool
  | .cells a, .cells b => sames a b
  | .recs n a, .recs m b => n == m && sames a b
  | .ints k a, .ints l b => k == l && a == b
  | .strs a, .strs b => a == b
  | _, _ => false
def Blk.same (a b : Blk) : Bool := a.rw == b.rw && a.kc == b.kc && a.fix == b.fix && a.so.same b.so

/-- what stands otherwise behind a call; none: a record among it -/
def setsIn (g : Nat → Option Blk) (key : Nat) : Hp → Option (List (Nat × Option Blk))
  | [] => some []
  | (i, .dead) :: r => (setsIn g key r).map fun l => (i, none) :: l
  | (_, .loop _) :: _ => none
  | (i, .blk b) :: r => if key ≤ i then (if b.rw && decide (i < key + 1048576) then (setsIn g key r).map fun l => (i, some b) :: l else none) else match g i with
    | some a => if a.same b then setsIn g key r else (setsIn g key r).map fun l => (i, some b) :: l
    | none => none

/-- every function by itself, on what it reaches -/
def autoRes (P : Program) (rC : RunC) (f : FuncId) (key : Nat) (g : Nat → Option Blk) (vs : List SV) : Res :=
  let hp0 := hpOf g (reach g 12 (addN (idsL vs) []))
  if !Hp.fresh (ge key) hp0 || mens (ge key) vs then .fail else
  match enterR P rC f vs hp0 key with
  | some (.ret v, hp', _) => if nodupB (hp'.map (·.1)) && (hp0.all fun x => (hp'.map (·.1)).contains x.1) && Hp.fresh (ge (key + 1048576)) hp' && !v.men (ge (key + 1048576)) then match setsIn (hget hp0) key hp' with
      | some l => .one ⟨[], v, l⟩
      | none => .fail
    else .fail
  | _ => .fail
theorem addN_sub : ∀ (l R : List Nat) (i : Nat), i ∈ R → i ∈ addN l R
  | [], _, _, h => h
  | j :: l, R, i, h => by
    simp only [addN]
    split
    · exact addN_sub l R i h
    · exact addN_sub l _ i (by simp [h])
theorem reach_sub {g : Nat → Option Blk} : ∀ (k : Nat) (R : List Nat) (i : Nat), i ∈ R → i ∈ reach g k R
  | 0, _, _, h => h
  | k + 1, R, i, h => reach_sub k _ i (addN_sub _ R i h)
theorem reach_loc {g g' : Nat → Option Blk} : ∀ (k : Nat) (R : List Nat), (∀ i ∈ reach g k R, g i = g' i) → reach g k R = reach g' k R
  | 0, R, _ => rfl
  | k + 1, R, h => by
    have hR : ∀ i ∈ R, g i = g' i := fun i hi => h i (reach_sub (k + 1) R i hi)
    simp only [reach] at h ⊢
    have hfl : ∀ l : List Nat, (∀ i ∈ l, g i = g' i) → l.flatMap (idsAt g) = l.flatMap (idsAt g') := by
      intro l
      induction l with
      | nil => intro _; rfl
      | cons j l ih =>
        intro hl
        rw [List.flatMap_cons, List.flatMap_cons, ih (fun i hi => hl i (List.mem_cons_of_mem _ hi))]
        unfold idsAt
        rw [hl j (List.mem_cons_self ..)]
    rw [hfl R hR] at h ⊢
    exact reach_loc k _ h
theorem hpOf_loc {g g' : Nat → Option Blk} : ∀ (l : List Nat), (∀ i ∈ l, g i = g' i) → hpOf g l = hpOf g' l
  | [], _ => rfl
  | i :: l, h => by
    simp only [hpOf]
    rw [h i (List.mem_cons_self ..), hpOf_loc l fun j hj => h j (List.mem_cons_of_mem _ hj)]
theorem autoRes_loc {P : Program} {rC : RunC} {f : FuncId} {key : Nat} {g g' : Nat → Option Blk} {vs : List SV} (h : ∀ i ∈ reach g 12 (addN (idsL vs) []), g i = g' i) : autoRes P rC f key g vs = autoRes P rC f key g' vs := by
  unfold autoRes
  rw [← reach_loc 12 _ h, hpOf_loc _ h]
def noC : Ctab := fun _ => none
attribute [irreducible] autoRes
def autoFC (P : Program) (rC : RunC) (f : FuncId) : FC where
  need := fun g vs => reach g 12 (addN (idsL vs) [])
  res := autoRes P rC f
  loc := fun _ _ _ _ h => autoRes_loc h
def autoC (P : Program) (Δ : Ctab) : Nat → Ctab
  | 0 => Δ
  | n + 1 => fun f => match Δ f with
    | some C => some C
    | none => some (autoFC P (runC P (autoC P Δ n) Δ 3000) f)

/-- how many noughts stand last -/
def ctzN : Nat → Nat → Nat
  | 0, _ => 0
  | k + 1, x => if x % 2 = 1 then 0 else ctzN k (x / 2) + 1
/-- math/bits.TrailingZeros64 -/
def tzC : FC where
  need := fun _ _ => []
  res := fun _ _ vs => match vs with
    | [v] => match v.asI with
      | some (l, .u64, n) => .one ⟨[ob (0 ≤ n ∧ n ≤ 18446744073709551615)], mkI l .i64 (ctzN 64 n.toNat), []⟩
      | _ => .fail
    | _ => .fail
  loc := fun _ _ _ _ _ => rfl
def tzT (f : FuncId) : Ctab := fun g => if g = f then some tzC else none
end Go.Sx
