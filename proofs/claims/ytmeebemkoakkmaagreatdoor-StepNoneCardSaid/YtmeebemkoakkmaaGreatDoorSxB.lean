import Derived.Test.YtmeebemkoakkmaaGreatDoorSxA
import Derived.Laws.Strings
import Derived.Laws.Entries
set_option linter.all false
/-
  Operations that turn no memory: what they come to, and that they do.
-/
noncomputable section
namespace Go.Sx
open Go

def SV.asI : SV → Option (Bool × IntKind × Int)
  | .lit k n => some (true, k, n)
  | .int k n => some (false, k, n)
  | _ => none
def SV.asB : SV → Option (Bool × Bool)
  | .lb b => some (true, b)
  | .bool b => some (false, b)
  | _ => none
theorem SV.asI_den {η : Env} {v : SV} {l : Bool} {k : IntKind} {n : Int} (h : v.asI = some (l, k, n)) : (v.den η) = .int k n := by
  cases v <;> simp [SV.asI] at h <;> obtain ⟨_, rfl, rfl⟩ := h <;> rfl
theorem SV.asB_den {η : Env} {v : SV} {l b : Bool} (h : v.asB = some (l, b)) : (v.den η) = .bool b := by
  cases v <;> simp [SV.asB] at h <;> obtain ⟨_, rfl⟩ := h <;> rfl
def mkI (l : Bool) (k : IntKind) (n : Int) : SV := if l then .lit k n else .int k n
def mkB (l : Bool) (b : Bool) : SV := if l then .lb b else .bool b
@[simp] theorem mkI_den {η : Env} (l : Bool) (k : IntKind) (n : Int) : ((mkI l k n).den η) = .int k n := by cases l <;> rfl
@[simp] theorem mkB_den {η : Env} (l b : Bool) : ((mkB l b).den η) = .bool b := by cases l <;> rfl

/-- what is owed: decided, where it is a literal's -/
def owe (l : Bool) (p : Prop) [Decidable p] : List Ob := if l then (if p then [] else [False]) else [p]
theorem owe_pays {l : Bool} {p : Prop} [Decidable p] (h : ∀ q ∈ owe l p, q) : p := by
  unfold owe at h
  cases l
  · exact h p (List.mem_singleton.2 rfl)
  · by_cases hp : p
    · exact hp
    · rw [if_pos rfl, if_neg hp] at h; exact (h False (List.mem_singleton.2 rfl)).elim

def bitI (op : BinOp) (k : IntKind) (x y : Int) : Int :=
  let a := BitVec.ofInt k.bits x
  let b := BitVec.ofInt k.bits y
  match op with
  | .and => k.wrap (a &&& b).toNat
  | .or => k.wrap (a ||| b).toNat
  | .xor => k.wrap (a ^^^ b).toNat
  | _ => k.wrap (a &&& ~~~b).toNat

def binI (op : BinOp) (k : IntKind) (la lb : Bool) (a b : Int) : Option (SV × List Ob) :=
  match op with
  | .add => some (mkI (la && lb) k (k.wrap (a + b)), [])
  | .sub => some (mkI (la && lb) k (k.wrap (a - b)), [])
  | .mul => some (mkI (la && lb) k (k.wrap (a * b)), [])
  | .quo => some (mkI (la && lb) k (k.wrap (a.tdiv b)), owe lb (b ≠ 0))
  | .rem => some (mkI (la && lb) k (a.tmod b), owe lb (b ≠ 0))
  | .and => some (mkI (la && lb) k (bitI .and k a b), [])
  | .or => some (mkI (la && lb) k (bitI .or k a b), [])
  | .xor => some (mkI (la && lb) k (bitI .xor k a b), [])
  | .andNot => some (mkI (la && lb) k (bitI .andNot k a b), [])
  | .eql => some (mkB (la && lb) (decide (a = b)), [])
  | .neq => some (mkB (la && lb) (!decide (a = b)), [])
  | .lss => some (mkB (la && lb) (decide (a < b)), [])
  | .leq => some (mkB (la && lb) (decide (a ≤ b)), [])
  | .gtr => some (mkB (la && lb) (decide (b < a)), [])
  | .geq => some (mkB (la && lb) (decide (b ≤ a)), [])
  | _ => none

def shiftI (op : BinOp) (k : IntKind) (la lb : Bool) (a b : Int) : Option (SV × List Ob) :=
  match op with
  | .shl => some (mkI (la && lb) k (k.wrap (a * 2 ^ (min b.toNat k.bits))), owe lb (0 ≤ b))
  | .shr => some (mkI (la && lb) k (a.fdiv (2 ^ (min b.toNat k.bits))), owe lb (0 ≤ b))
  | _ => none

def isShift : BinOp → Bool
  | .shl | .shr => true
  | _ => false

def strLess (a b : List UInt8) : Bool := Op.bytesLess a b

def binStr (op : BinOp) (a b : List UInt8) : Option (SV × List Ob) :=
  match op with
  | .add => some (.str (a ++ b), [a.length + b.length ≤ 9223372036854775807])
  | .eql => some (.bool (decide (a = b)), [])
  | .neq => some (.bool (!decide (a = b)), [])
  | .lss => some (.bool (strLess a b), [])
  | .leq => some (.bool (strLess a b || decide (a = b)), [])
  | .gtr => some (.bool !(strLess a b || decide (a = b)), [])
  | .geq => some (.bool !(strLess a b), [])
  | _ => none

/-- is it nil? of what may be -/
def SV.nilQ : SV → Option Bool
  | .ptr .. => some false
  | .pti .. => some false
  | .nilp => some true
  | .sl .. => some false
  | .nils => some true
  | .fn .. => some false
  | .nilf => some true
  | _ => none

def isNilable : Option TypeDesc → SV → Bool
  | some (.pointer _), .ptr .. | some (.pointer _), .pti .. | some (.pointer _), .nilp => true
  | some (.slice _), .sl .. | some (.slice _), .nils => true
  | some (.func ..), .fn .. | some (.func ..), .nilf => true
  | some (.interface _), .iface .. | some (.interface _), .nili => true
  | _, _ => false

def eqNil (P : Program) (t : TypeId) (x y : SV) : Option Bool :=
  match P.underlying t, x, y with
  | some (.pointer _), .ptr .., .nilp | some (.pointer _), .nilp, .ptr .. => some false
  | some (.pointer _), .pti .., .nilp | some (.pointer _), .nilp, .pti .. => some false
  | some (.pointer _), .nilp, .nilp => some true
  | some (.slice _), .sl .., .nils | some (.slice _), .nils, .sl .. => some false
  | some (.slice _), .nils, .nils => some true
  | some (.func ..), .fn .., .nilf | some (.func ..), .nilf, .fn .. => some false
  | some (.func ..), .nilf, .nilf => some true
  | some (.interface _), .iface .., .nili | some (.interface _), .nili, .iface .. => some false
  | _, _, _ => none

def binS (P : Program) (op : BinOp) (t : TypeId) (x y : SV) : Option (SV × List Ob) :=
  match x.asI, y.asI with
  | some (la, k, a), some (lb, k', b) =>
    if isShift op then shiftI op k la lb a b else if k = k' then binI op k la lb a b else none
  | _, _ =>
    match x.asB, y.asB with
    | some (la, a), some (lb, b) =>
      match op, P.underlying t with
      | .eql, some .bool => some (mkB (la && lb) (a == b), [])
      | .neq, some .bool => some (mkB (la && lb) (!(a == b)), [])
      | _, _ => none
    | _, _ =>
      match x, y with
      | .str a, .str b => binStr op a b
      | _, _ =>
        match op, eqNil P t x y with
        | .eql, some b => some (.lb b, [])
        | .neq, some b => some (.lb !b, [])
        | _, _ => none

section
variable {P : Program} {w : World} {η : Env}

theorem binOp_int {op : BinOp} {k : IntKind} {la lb : Bool} {a b : Int} {t : TypeId} {v : SV} {o : List Ob} (h : binI op k la lb a b = some (v, o)) (ho : ∀ p ∈ o, p) :
    (binOp op t (.int k a) (.int k b)).run P w = .ok (v.den η) w := by
  cases op <;> simp only [binI, Option.some.injEq, Prod.mk.injEq, reduceCtorEq] at h
  all_goals obtain ⟨rfl, rfl⟩ := h
  all_goals first
    | (simp [binOp, Op.intArith]; done)
    | (have := owe_pays ho; simp [binOp, Op.intDiv, this]; done)
    | (simp [binOp, Op.intBits, bitI]; done)
    | (simp [binOp, Op.intCmp]; done)
    | skip
  · simp [binOp, Op.intCmp]; rfl
  · simp [binOp, Op.intCmp]; rfl
theorem binOp_shift {op : BinOp} {k k' : IntKind} {la lb : Bool} {a b : Int} {t : TypeId} {v : SV} {o : List Ob} (h : shiftI op k la lb a b = some (v, o)) (ho : ∀ p ∈ o, p) :
    (binOp op t (.int k a) (.int k' b)).run P w = .ok (v.den η) w := by
  cases op <;> simp only [shiftI, Option.some.injEq, Prod.mk.injEq, reduceCtorEq] at h
  all_goals obtain ⟨rfl, rfl⟩ := h
  all_goals have := owe_pays ho
  all_goals have h' : ¬ b < 0 := by omega
  all_goals simp [binOp, Op.shift, h']
theorem strEq_dec (a b : List UInt8) : (a == b) = decide (a = b) := by
  by_cases h : a = b <;> simp [h]
theorem binOp_str {op : BinOp} {a b : List UInt8} {t : TypeId} {v : SV} {o : List Ob} (h : binStr op a b = some (v, o)) (ho : ∀ p ∈ o, p) :
    (binOp op t (.string ⟨a.toArray⟩) (.string ⟨b.toArray⟩)).run P w = .ok (v.den η) w := by
  cases op <;> simp only [binStr, Option.some.injEq, Prod.mk.injEq, reduceCtorEq] at h
  all_goals obtain ⟨rfl, rfl⟩ := h
  · have h1 : a.length + b.length ≤ 9223372036854775807 := ho _ (List.mem_singleton.2 rfl)
    have hm : IntKind.i64.max = 9223372036854775807 := by decide
    have h2 : ¬ (((ByteArray.mk a.toArray).size + (ByteArray.mk b.toArray).size : Nat) : Int) > IntKind.i64.max := by
      rw [hm]; simp [ByteArray.size]; omega
    simp only [binOp, Op.stringOp]
    rw [if_neg h2]
    simp [SV.den]
    rfl
  all_goals simp only [binOp, Op.stringOp, ByteArray.toList_mk, strEq_dec, SV.den, strLess]; rfl
theorem equal_bool {t : TypeId} {a b : Bool} (h : P.underlying t = some .bool) : (Op.equal t (.bool a) (.bool b)).run P w = .ok (a == b) w := by
  unfold Op.equal Op.maxDepth Op.equalIn
  simp [run_underlying h]
theorem equal_nil {t : TypeId} {x y : SV} {b : Bool} (h : eqNil P t x y = some b) : (Op.equal t (x.den η) (y.den η)).run P w = .ok b w := by
  unfold Op.equal Op.maxDepth Op.equalIn
  unfold eqNil at h
  split at h <;> first | cases h | skip
  all_goals (rename_i hu; simp [SV.den, run_underlying hu, samePointer])
theorem eqGuard_plain {op : BinOp} {t : TypeId} {x y : Operand} {a b : Value} (h : (match a, b with | .nilIface, .nilIface => false | .agg _, .agg _ => false | _, _ => true) = true) :
    (eqGuard op t x y a b).run P w = .ok () w := by
  cases op <;> first | rfl | (cases a <;> cases b <;> first | rfl | cases h)
theorem binS_sound {op : BinOp} {t : TypeId} {x y : SV} {v : SV} {o : List Ob} (h : binS P op t x y = some (v, o)) (ho : ∀ p ∈ o, p) (ox oy : Operand) :
    (do eqGuard op t ox oy (x.den η) (y.den η); binOp op t (x.den η) (y.den η) : Sem Value).run P w = .ok (v.den η) w := by
  unfold binS at h
  split at h
  · rename_i la k a lb k' b hx hy
    rw [SV.asI_den hx, SV.asI_den hy]
    rw [Sem.run_bind, eqGuard_plain rfl, Result.andThen_ok]
    split at h
    · exact binOp_shift h ho
    · split at h
      · rename_i hk; subst hk; exact binOp_int h ho
      · cases h
  · split at h
    · rename_i la a lb b hx hy
      rw [SV.asB_den hx, SV.asB_den hy]
      rw [Sem.run_bind, eqGuard_plain rfl, Result.andThen_ok]
      split at h
      · rename_i hu
        simp only [Option.some.injEq, Prod.mk.injEq] at h
        obtain ⟨rfl, rfl⟩ := h
        simp [binOp, equal_bool hu]
      · rename_i hu
        simp only [Option.some.injEq, Prod.mk.injEq] at h
        obtain ⟨rfl, rfl⟩ := h
        simp [binOp, equal_bool hu]
      · cases h
    · split at h
      · rw [Sem.run_bind, eqGuard_plain (by rfl), Result.andThen_ok]
        exact binOp_str h ho
      · split at h
        · rename_i b he
          simp only [Option.some.injEq, Prod.mk.injEq] at h
          obtain ⟨rfl, rfl⟩ := h
          have hg : (eqGuard .eql t ox oy (x.den η) (y.den η)).run P w = .ok () w := by
            refine eqGuard_plain ?_
            unfold eqNil at he
            split at he <;> first | cases he | skip
            all_goals rfl
          rw [Sem.run_bind, hg, Result.andThen_ok]
          have he' := equal_nil (w := w) (η := η) he
          unfold eqNil at he
          split at he <;> first | cases he | skip
          all_goals (simp only [SV.den] at he' ⊢; simp only [binOp]; simp [he'])
        · rename_i b he
          simp only [Option.some.injEq, Prod.mk.injEq] at h
          obtain ⟨rfl, rfl⟩ := h
          have hg : (eqGuard .neq t ox oy (x.den η) (y.den η)).run P w = .ok () w := by
            refine eqGuard_plain ?_
            unfold eqNil at he
            split at he <;> first | cases he | skip
            all_goals rfl
          rw [Sem.run_bind, hg, Result.andThen_ok]
          have he' := equal_nil (w := w) (η := η) he
          unfold eqNil at he
          split at he <;> first | cases he | skip
          all_goals (simp only [SV.den] at he' ⊢; simp only [binOp]; simp [he'])
        · cases h
end
end Go.Sx
