import Derived.Test.YtmeebemkoakkmaaGreatDoorSxD
import Derived.Laws.StructEq
set_option linter.all false
/-
  Structs and arrays of plain cells, compared.
-/
noncomputable section
namespace Go.Sx
open Go

def andS (r : Option SV) (rest : Option SV) : Option SV :=
  match r with
  | some (.lb false) => some (.lb false)
  | some (.lb true) => match rest with
    | some (.lb b) => some (.lb b)
    | some (.bool b) => some (.bool b)
    | _ => none
  | some (.bool a) => match rest with
    | some (.lb b) => some (.bool (a && b))
    | some (.bool b) => some (.bool (a && b))
    | _ => none
  | _ => none

def eqFieldsS (P : Program) (eq : TypeId → SV → SV → Option SV) (xs ys : List SV) : List Field → Option SV
  | [] => some (.lb true)
  | f :: fs => if f.name = "_" then eqFieldsS P eq xs ys fs else match partS P f.type xs f.offset, partS P f.type ys f.offset with
    | some a, some b => andS (eq f.type a b) (eqFieldsS P eq xs ys fs)
    | _, _ => none
def eqElemsS (P : Program) (eq : TypeId → SV → SV → Option SV) (t : TypeId) (n : Nat) (xs ys : List SV) : List Nat → Option SV
  | [] => some (.lb true)
  | i :: is => match partS P t xs (i * n), partS P t ys (i * n) with
    | some a, some b => andS (eq t a b) (eqElemsS P eq t n xs ys is)
    | _, _ => none

def eqS (P : Program) : Nat → TypeId → SV → SV → Option SV
  | 0, _, _, _ => none
  | k + 1, t, x, y => match P.underlying t, x, y with
    | some .bool, .lb a, .lb b => some (.lb (a == b))
    | some .bool, .lb a, .bool b => some (.bool (a == b))
    | some .bool, .bool a, .lb b => some (.bool (a == b))
    | some .bool, .bool a, .bool b => some (.bool (a == b))
    | some (.int _), .lit k a, .lit k' b => if k = k' then some (.lb (decide (a = b))) else none
    | some (.int _), .lit k a, .int k' b => if k = k' then some (.bool (decide (a = b))) else none
    | some (.int _), .int k a, .lit k' b => if k = k' then some (.bool (decide (a = b))) else none
    | some (.int _), .int k a, .int k' b => if k = k' then some (.bool (decide (a = b))) else none
    | some .string, .str a, .str b => some (.bool (decide (a = b)))
    | some (.struct fs), .agg xs, .agg ys => if P.stoodInHeld t then none else eqFieldsS P (eqS P k) xs ys fs.toList
    | some (.array len e), .agg xs, .agg ys => match P.info? e with
      | some i => eqElemsS P (eqS P k) e i.size xs ys (List.range len)
      | none => none
    | _, _, _ => none

def isC : Operand → Bool
  | .const _ => true
  | _ => false
def eqAggS (P : Program) (op : BinOp) (t : TypeId) (c : Bool) (x y : SV) : Option (SV × List Ob) :=
  match x, y with
  | .nili, .nili => match c, op, P.underlying t with
    | true, .eql, some (.interface _) => some (.lb true, [])
    | true, .neq, some (.interface _) => some (.lb false, [])
    | _, _, _ => none
  | .agg _, .agg _ => if P.eqGuardType P.depth t then none else match op, eqS P 20 t x y with
    | .eql, some (.lb b) => some (.lb b, [])
    | .eql, some (.bool b) => some (.bool b, [])
    | .neq, some (.lb b) => some (.lb !b, [])
    | .neq, some (.bool b) => some (.bool !b, [])
    | _, _ => none
  | _, _ => none

section
variable {P : Program} {η : Env} {w : World}

theorem intEq_dec (a b : Int) : (a == b) = decide (a = b) := by
  by_cases h : a = b <;> simp [h]
def yesS : SV → Option Bool
  | .lb b => some b
  | .bool b => some b
  | _ => none
theorem andS_sound {r rest : Option SV} {v : SV} (h : andS r rest = some v) :
    (∃ u, r = some u ∧ yesS u = some false ∧ yesS v = some false) ∨ (∃ u x b, r = some u ∧ yesS u = some true ∧ rest = some x ∧ yesS x = some b ∧ yesS v = some b) := by
  unfold andS at h
  split at h
  · simp only [Option.some.injEq] at h; subst h; exact .inl ⟨_, rfl, rfl, rfl⟩
  · split at h
    · simp only [Option.some.injEq] at h; subst h; exact .inr ⟨_, _, _, rfl, rfl, rfl, rfl, rfl⟩
    · simp only [Option.some.injEq] at h; subst h; exact .inr ⟨_, _, _, rfl, rfl, rfl, rfl, rfl⟩
    · cases h
  · rename_i a
    split at h
    · rename_i b
      simp only [Option.some.injEq] at h; subst h
      cases a
      · exact .inl ⟨_, rfl, rfl, rfl⟩
      · exact .inr ⟨_, _, _, rfl, rfl, rfl, rfl, rfl⟩
    · rename_i b
      simp only [Option.some.injEq] at h; subst h
      cases a
      · exact .inl ⟨_, rfl, rfl, rfl⟩
      · exact .inr ⟨_, _, _, rfl, rfl, rfl, rfl, rfl⟩
    · cases h
  · cases h

def EqOk (P : Program) (η : Env) (w : World) (d : Nat) (eq : TypeId → SV → SV → Option SV) : Prop :=
  ∀ t x y v, eq t x y = some v → ∃ b, yesS v = some b ∧ (Op.equalIn d t (x.den η) (y.den η)).run P w = .ok b w

theorem eqFieldsS_sound {d : Nat} {eq : TypeId → SV → SV → Option SV} (he : EqOk P η w d eq) {xs ys : List SV} : ∀ {fs : List Field} {v : SV}, eqFieldsS P eq xs ys fs = some v →
    ∃ b, yesS v = some b ∧ (Op.eqFields d (dens η xs).toArray (dens η ys).toArray fs).run P w = .ok b w
  | [], v, h => by simp only [eqFieldsS, Option.some.injEq] at h; subst h; exact ⟨true, rfl, by simp [Op.eqFields]⟩
  | f :: fs, v, h => by
    simp only [eqFieldsS] at h
    split at h
    · rename_i hn
      obtain ⟨b, h1, h2⟩ := eqFieldsS_sound he h
      exact ⟨b, h1, by simp only [Op.eqFields, hn]; exact h2⟩
    · rename_i hn
      split at h
      · rename_i a b ha hb
        have p1 := partS_sound (η := η) (w := w) ha
        have p2 := partS_sound (η := η) (w := w) hb
        rcases andS_sound h with ⟨u, hu, h1, h2⟩ | ⟨u, x, b', hu, h1, hx, h2, h3⟩
        · obtain ⟨c, h3, h4⟩ := he _ _ _ _ hu
          rw [h1] at h3; cases h3
          exact ⟨false, h2, by simp only [Op.eqFields, ne_eq, hn, not_false_eq_true, if_true, Sem.run_bind, p1, p2, h4, Result.andThen_ok]; rfl⟩
        · obtain ⟨c, h4, h5⟩ := he _ _ _ _ hu
          rw [h1] at h4; cases h4
          obtain ⟨b2, h6, h7⟩ := eqFieldsS_sound he hx
          rw [h2] at h6; cases h6
          refine ⟨b', h3, ?_⟩
          simp only [Op.eqFields, ne_eq, hn, not_false_eq_true, if_true, Sem.run_bind, p1, p2, h5, Result.andThen_ok, Bool.not_true, Bool.false_eq_true, if_false]
          exact h7
      · cases h

theorem eqElemsS_sound {d : Nat} {eq : TypeId → SV → SV → Option SV} (he : EqOk P η w d eq) {t : TypeId} {n : Nat} {xs ys : List SV} : ∀ {l : List Nat} {v : SV}, eqElemsS P eq t n xs ys l = some v →
    ∃ b, yesS v = some b ∧ (((forIn l ((none : Option Bool), ()) fun i _ => do
        if !(← Op.equalIn d t (← part t (dens η xs).toArray (i * n)) (← part t (dens η ys).toArray (i * n))) then pure (ForInStep.done (some false, ())) else pure (ForInStep.yield (none, ())) : Sem (Option Bool × Unit)).run P w).andThen
      fun a w' => (match a.fst with | some r => pure r | none => pure true : Sem Bool).run P w') = .ok b w
  | [], v, h => by simp only [eqElemsS, Option.some.injEq] at h; subst h; exact ⟨true, rfl, by simp⟩
  | i :: is, v, h => by
    simp only [eqElemsS] at h
    split at h
    · rename_i a b ha hb
      have p1 := partS_sound (η := η) (w := w) ha
      have p2 := partS_sound (η := η) (w := w) hb
      rcases andS_sound h with ⟨u, hu, h1, h2⟩ | ⟨u, x, b', hu, h1, hx, h2, h3⟩
      · obtain ⟨c, h3, h4⟩ := he _ _ _ _ hu
        rw [h1] at h3; cases h3
        exact ⟨false, h2, by simp [List.forIn_cons, Sem.run_bind, p1, p2, h4, Result.andThen_ok]⟩
      · obtain ⟨c, h4, h5⟩ := he _ _ _ _ hu
        rw [h1] at h4; cases h4
        obtain ⟨b2, h6, h7⟩ := eqElemsS_sound he hx
        rw [h2] at h6; cases h6
        refine ⟨b', h3, ?_⟩
        rw [List.forIn_cons]
        simp only [Sem.run_bind, p1, p2, h5, Result.andThen_ok, Bool.not_true, Bool.false_eq_true, if_false, Sem.run_pure] at h7 ⊢
        exact h7
    · cases h
theorem eqS_sound : ∀ (k d : Nat), EqOk P η w (d + k) (eqS P k)
  | 0, d => fun t x y v h => by simp [eqS] at h
  | k + 1, d => fun t x y v h => by
    have ih := eqS_sound k d
    have hdk : d + (k + 1) = (d + k) + 1 := by omega
    rw [hdk]
    unfold eqS at h
    split at h
    · rename_i hu; simp only [Option.some.injEq] at h; subst h; exact ⟨_, rfl, run_equalIn_bool w _ t _ _ hu⟩
    · rename_i hu; simp only [Option.some.injEq] at h; subst h; exact ⟨_, rfl, run_equalIn_bool w _ t _ _ hu⟩
    · rename_i hu; simp only [Option.some.injEq] at h; subst h; exact ⟨_, rfl, run_equalIn_bool w _ t _ _ hu⟩
    · rename_i hu; simp only [Option.some.injEq] at h; subst h; exact ⟨_, rfl, run_equalIn_bool w _ t _ _ hu⟩
    · rename_i k1 k2 a k3 b hu; split at h
      · rename_i e; subst e; simp only [Option.some.injEq] at h; subst h; exact ⟨_, rfl, (run_equalIn_int w _ t _ k1 _ _ hu).trans (by rw [intEq_dec])⟩
      · cases h
    · rename_i k1 k2 a k3 b hu; split at h
      · rename_i e; subst e; simp only [Option.some.injEq] at h; subst h; exact ⟨_, rfl, (run_equalIn_int w _ t _ k1 _ _ hu).trans (by rw [intEq_dec])⟩
      · cases h
    · rename_i k1 k2 a k3 b hu; split at h
      · rename_i e; subst e; simp only [Option.some.injEq] at h; subst h; exact ⟨_, rfl, (run_equalIn_int w _ t _ k1 _ _ hu).trans (by rw [intEq_dec])⟩
      · cases h
    · rename_i k1 k2 a k3 b hu; split at h
      · rename_i e; subst e; simp only [Option.some.injEq] at h; subst h; exact ⟨_, rfl, (run_equalIn_int w _ t _ k1 _ _ hu).trans (by rw [intEq_dec])⟩
      · cases h
    · rename_i a b hu
      simp only [Option.some.injEq] at h; subst h
      refine ⟨_, rfl, ?_⟩
      have := run_equalIn_string (P := P) w (d + k) t ⟨a.toArray⟩ ⟨b.toArray⟩ hu
      simp only [SV.den]
      rw [this, ByteArray.toList_eq, ByteArray.toList_eq]
      simp only [List.toList_toArray]
      rw [strEq_dec]
    · rename_i fs xs ys hu
      split at h
      · cases h
      · rename_i hst
        have hf : P.fieldsOf t = fs := by unfold Program.fieldsOf; rw [hu]
        obtain ⟨b, h1, h2⟩ := eqFieldsS_sound ih h
        refine ⟨b, h1, ?_⟩
        simp only [SV.den]
        rw [run_equalIn_struct w (d + k) t _ _ (by rw [hf]; exact hu) (by simpa using hst), hf]
        exact h2
    · rename_i len e xs ys hu
      split at h
      · rename_i i hi
        obtain ⟨b, h1, h2⟩ := eqElemsS_sound ih h
        refine ⟨b, h1, ?_⟩
        simp only [SV.den, Op.equalIn, Sem.run_bind, run_underlying hu, Result.andThen_ok, run_szOf hi]
        simp only [Std.Legacy.Range.forIn_eq_forIn_range', Std.Legacy.Range.size]
        simp only [Nat.sub_zero, Nat.add_sub_cancel, Nat.div_one, ← List.range_eq_range']
        refine Eq.trans ?_ h2
        congr 1
        funext a w'
        rcases a with ⟨_ | _, _⟩ <;> rfl
      · cases h
    · cases h
theorem eqGuard_nil {op : BinOp} {t : TypeId} {ox oy : Operand} (h : (isC ox || isC oy) = true) : (eqGuard op t ox oy .nilIface .nilIface).run P w = .ok () w := by
  cases op <;> first | rfl | (cases ox <;> cases oy <;> first | rfl | cases h)
theorem equal_nil2 {t : TypeId} {m : Array (String × TypeId)} (h : P.underlying t = some (.interface m)) : (Op.equal t .nilIface .nilIface).run P w = .ok true w := by
  unfold Op.equal Op.maxDepth Op.equalIn
  simp [run_underlying h]
theorem eqAggS_sound {op : BinOp} {t : TypeId} {x y v : SV} {o : List Ob} {ox oy : Operand} (h : eqAggS P op t (isC ox || isC oy) x y = some (v, o)) :
    (do eqGuard op t ox oy (x.den η) (y.den η); binOp op t (x.den η) (y.den η) : Sem Value).run P w = .ok (v.den η) w := by
  unfold eqAggS at h
  split at h
  · split at h
    · rename_i hc hu
      simp only [Option.some.injEq, Prod.mk.injEq] at h; obtain ⟨rfl, rfl⟩ := h
      simp only [SV.den]
      rw [Sem.run_bind, eqGuard_nil hc, Result.andThen_ok]
      simp only [binOp]; simp [equal_nil2 hu]
    · rename_i hc hu
      simp only [Option.some.injEq, Prod.mk.injEq] at h; obtain ⟨rfl, rfl⟩ := h
      simp only [SV.den]
      rw [Sem.run_bind, eqGuard_nil hc, Result.andThen_ok]
      simp only [binOp]; simp [equal_nil2 hu]
    · cases h
  · rename_i xs ys
    split at h
    · cases h
    · rename_i hg
      have key := eqS_sound (P := P) (η := η) (w := w) 20 9980 t (.agg xs) (.agg ys)
      simp only [SV.den] at key ⊢
      rw [Sem.run_bind, run_eqGuard_agg w op t ox oy _ _ (by simpa using hg), Result.andThen_ok]
      split at h
      · rename_i b he
        simp only [Option.some.injEq, Prod.mk.injEq] at h; obtain ⟨rfl, rfl⟩ := h
        obtain ⟨c, h1, h2⟩ := key _ he
        cases h1
        rw [run_eql_struct]; erw [h2]; rfl
      · rename_i b he
        simp only [Option.some.injEq, Prod.mk.injEq] at h; obtain ⟨rfl, rfl⟩ := h
        obtain ⟨c, h1, h2⟩ := key _ he
        cases h1
        rw [run_eql_struct]; erw [h2]; rfl
      · rename_i b he
        simp only [Option.some.injEq, Prod.mk.injEq] at h; obtain ⟨rfl, rfl⟩ := h
        obtain ⟨c, h1, h2⟩ := key _ he
        cases h1
        rw [run_neq_struct]; erw [h2]; rfl
      · rename_i b he
        simp only [Option.some.injEq, Prod.mk.injEq] at h; obtain ⟨rfl, rfl⟩ := h
        obtain ⟨c, h1, h2⟩ := key _ he
        cases h1
        rw [run_neq_struct]; erw [h2]; rfl
      · cases h
  · cases h
end
end Go.Sx
