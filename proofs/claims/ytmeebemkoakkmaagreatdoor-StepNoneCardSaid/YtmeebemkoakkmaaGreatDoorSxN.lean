import Derived.Test.YtmeebemkoakkmaaGreatDoorSxM
set_option linter.all false
/-
  A region whose order is open: one walk in the order of the text, and a look at who reads and writes what.
-/
noncomputable section
namespace Go.Sx
open Go

structure SR where
  e : Eff
  need : List Nat
  ran : Bool
  fr : Bool
def SR.skip : SR := ⟨⟨[], undefS, []⟩, [], false, false⟩

def isFail : Res → Bool
  | .fail => true
  | _ => false

def symD (P : Program) (fx : SV → SV) (Γ : Ctab) (ops : Array Oper) (k0 : Nat) (K : List SR → St → Prop) : List Nat → List SR → St → Prop
  | [], E, σ => K E σ
  | i :: rest, E, σ => match ops[i]? with
    | none => False
    | some o => match wantS ops σ o with
      | .yes => (opX P fx Γ σ.ev (hget σ.hp) (k0 + 1048576 * i) o.op).all fun e => splitV (fun _ => isGuard ops i) e.val fun u => symD P fx Γ ops k0 K rest (E ++ [⟨{ e with val := u }, needD P Γ σ.ev (hget σ.hp) o.op, true, isFail (pureOp P σ.ev o.op)⟩]) (σ.app o.dst { e with val := u })
      | .no => symD P fx Γ ops k0 K rest (E ++ [SR.skip]) (σ.app o.dst SR.skip.e)
      | .ask b want => (b = want → (opX P fx Γ σ.ev (hget σ.hp) (k0 + 1048576 * i) o.op).all fun e => splitV (fun _ => isGuard ops i) e.val fun u => symD P fx Γ ops k0 K rest (E ++ [⟨{ e with val := u }, needD P Γ σ.ev (hget σ.hp) o.op, true, isFail (pureOp P σ.ev o.op)⟩]) (σ.app o.dst { e with val := u })) ∧
          (¬ b = want → symD P fx Γ ops k0 K rest (E ++ [SR.skip]) (σ.app o.dst SR.skip.e))
      | .bad => False

def dstOf (ops : Array Oper) (i : Nat) : Option Tmp := (ops[i]?).bind (·.dst)
def readsOf (ops : Array Oper) (i : Nat) : List Tmp := match ops[i]? with
  | some o => o.looksAt ops
  | none => []
def depsOf (ops : Array Oper) (i : Nat) : List Nat := match ops[i]? with
  | some o => (o.after.toList.filter fun e => Region.binds .any e).map (·.on)
  | none => []
/-- each once -/
def uni : List Nat → List Nat → List Nat
  | [], R => R
  | i :: l, R => if R.contains i then uni l R else uni l (i :: R)
theorem mem_uni {x : Nat} : ∀ {l R : List Nat}, x ∈ uni l R ↔ x ∈ l ∨ x ∈ R
  | [], R => by simp [uni]
  | i :: l, R => by
    simp only [uni]
    split
    · rename_i h
      rw [mem_uni]
      have hi : i ∈ R := by simpa using h
      constructor
      · rintro (h | h)
        · exact .inl (List.mem_cons_of_mem _ h)
        · exact .inr h
      · rintro (h | h)
        · rcases List.mem_cons.1 h with rfl | h
          · exact .inr hi
          · exact .inl h
        · exact .inr h
    · rw [mem_uni]
      simp only [List.mem_cons]
      constructor
      · rintro (h | h | h)
        · exact .inl (.inr h)
        · exact .inl (.inl h)
        · exact .inr h
      · rintro ((h | h) | h)
        · exact .inr (.inl h)
        · exact .inl h
        · exact .inr (.inr h)
def ancs (ops : Array Oper) : Nat → List (List Nat)
  | 0 => []
  | n + 1 => let r := ancs ops n
    r ++ [uni (depsOf ops n ++ (depsOf ops n).flatMap fun j => r.getD j []) []]
def anc (A : List (List Nat)) (i : Nat) : List Nat := A.getD i []

def eOf (E : List SR) (i : Nat) : Eff := (E[i]?.getD SR.skip).e
def setsOf (E : List SR) (i : Nat) : List Nat := (eOf E i).sets.map (·.1)
def needOf (E : List SR) (i : Nat) : List Nat := (E[i]?.getD SR.skip).need

def meets (l m : List Nat) : Bool := l.any fun x => m.contains x
def confl (ops : Array Oper) (E : List SR) (i j : Nat) : Bool :=
  (match dstOf ops i with | some d => (readsOf ops j).contains d || dstOf ops j == some d | none => false) ||
  (match dstOf ops j with | some d => (readsOf ops i).contains d | none => false) ||
  meets (setsOf E i) (needOf E j) || meets (setsOf E i) (setsOf E j) || meets (needOf E i) (setsOf E j)

def checkD (ops : Array Oper) (k0 : Nat) (E : List SR) : Bool :=
  let n := ops.size
  let A := ancs ops n
  (List.range n).all fun j => (depsOf ops j).all (fun d => decide (d < j)) &&
    (List.range j).all (fun i => !confl ops E i j || (anc A j).contains i) &&
    (!(E[j]?.getD SR.skip).fr || (List.range n).all fun i => (i == j) || (eOf E i).fresh (rng (k0 + 1048576 * j)) || (anc A i).contains j) &&
    (eOf E j).fresh (ge (k0 + 1048576 * n))

/-! the state behind some operations, in whatever order -/
def stL (ops : Array Oper) (E : List SR) (σ : St) (l : List Nat) : St := l.foldl (fun s i => s.app (dstOf ops i) (eOf E i)) σ

section
variable {ops : Array Oper} {E : List SR}

theorem stL_snoc (σ : St) (l : List Nat) (i : Nat) : stL ops E σ (l ++ [i]) = (stL ops E σ l).app (dstOf ops i) (eOf E i) := by simp [stL]

def tmStep (ops : Array Oper) (E : List SR) (t : Nat) (x : Option SV) (i : Nat) : Option SV := if dstOf ops i = some t then x.map fun _ => (eOf E i).val else x
theorem app_tm (σ : St) (d : Option Tmp) (e : Eff) (t : Nat) : (σ.app d e).tm[t]? = if d = some t then (σ.tm[t]?).map fun _ => e.val else σ.tm[t]? := by
  cases d with
  | none => simp [St.app]
  | some d =>
    simp only [St.app, List.setN_eq, List.getElem?_set, Option.some.injEq]
    by_cases h : d = t
    · subst h
      simp only [if_true]
      by_cases hl : d < σ.tm.length
      · simp [hl]
      · simp [hl]
    · simp [h]
theorem stL_tm (t : Nat) : ∀ (l : List Nat) (σ : St), (stL ops E σ l).tm[t]? = l.foldl (tmStep ops E t) (σ.tm[t]?)
  | [], σ => rfl
  | i :: l, σ => by
    have : stL ops E σ (i :: l) = stL ops E (σ.app (dstOf ops i) (eOf E i)) l := rfl
    rw [this, stL_tm t l, app_tm]; rfl

def lastSet : List (Nat × Option Blk) → Nat → Option (Option Blk)
  | [], _ => none
  | (i, b) :: r, j => match lastSet r j with
    | some c => some c
    | none => if i = j then some b else none
theorem hget_hsets : ∀ (s : List (Nat × Option Blk)) (h : Hp) (j : Nat), hget (hsets h s) j = (match lastSet s j with | some b => b | none => hget h j)
  | [], h, j => rfl
  | (i, b) :: r, h, j => by
    simp only [hsets, lastSet]
    rw [hget_hsets r]
    cases lastSet r j with
    | some c => rfl
    | none =>
      simp only
      rw [hget_hset]
      by_cases hij : i = j <;> simp [hij]
theorem lastSet_none {s : List (Nat × Option Blk)} {j : Nat} (h : j ∉ s.map (·.1)) : lastSet s j = none := by
  induction s with
  | nil => rfl
  | cons x r ih =>
    obtain ⟨i, b⟩ := x
    simp only [List.map_cons, List.mem_cons, not_or] at h
    simp [lastSet, ih h.2, Ne.symm h.1]
def hpStep (E : List SR) (j : Nat) (x : Option Blk) (i : Nat) : Option Blk := match lastSet (eOf E i).sets j with | some b => b | none => x
theorem stL_hp (j : Nat) : ∀ (l : List Nat) (σ : St), hget (stL ops E σ l).hp j = l.foldl (hpStep E j) (hget σ.hp j)
  | [], σ => rfl
  | i :: l, σ => by
    have : stL ops E σ (i :: l) = stL ops E (σ.app (dstOf ops i) (eOf E i)) l := rfl
    rw [this, stL_hp j l]
    simp only [List.foldl_cons, St.app]
    rw [hget_hsets]; rfl

theorem foldl_filter {α β : Type} (f : β → α → β) (W : α → Bool) (h : ∀ x a, W a = false → f x a = x) : ∀ (l : List α) (x : β), l.foldl f x = (l.filter W).foldl f x
  | [], _ => rfl
  | a :: l, x => by
    simp only [List.foldl_cons, List.filter_cons]
    cases hW : W a with
    | true => simp only [if_true, List.foldl_cons]; exact foldl_filter f W h l _
    | false => simp only [Bool.false_eq_true, if_false]; rw [h x a hW]; exact foldl_filter f W h l _

def wT (ops : Array Oper) (t : Nat) (i : Nat) : Bool := dstOf ops i == some t
def wH (E : List SR) (j : Nat) (i : Nat) : Bool := (setsOf E i).contains j
theorem tm_same {σ : St} {t : Nat} {l m : List Nat} (h : l.filter (wT ops t) = m.filter (wT ops t)) : (stL ops E σ l).tm[t]? = (stL ops E σ m).tm[t]? := by
  have key : ∀ x a, wT ops t a = false → tmStep ops E t x a = x := fun x a ha => by
    simp only [wT, beq_eq_false_iff_ne] at ha
    simp [tmStep, ha]
  rw [stL_tm, stL_tm, foldl_filter _ (wT ops t) key, foldl_filter _ (wT ops t) key m, h]
theorem hp_same {σ : St} {j : Nat} {l m : List Nat} (h : l.filter (wH E j) = m.filter (wH E j)) : hget (stL ops E σ l).hp j = hget (stL ops E σ m).hp j := by
  have key : ∀ x a, wH E j a = false → hpStep E j x a = x := fun x a ha => by
    have : j ∉ (eOf E a).sets.map (·.1) := by simpa [wH, setsOf] using ha
    simp [hpStep, lastSet_none this]
  rw [stL_hp, stL_hp, foldl_filter _ (wH E j) key, foldl_filter _ (wH E j) key m, h]

/-- two rising lists of the same numbers -/
theorem rising_eq : ∀ {l m : List Nat}, l.Pairwise (· < ·) → m.Pairwise (· < ·) → (∀ x, x ∈ l ↔ x ∈ m) → l = m
  | [], [], _, _, _ => rfl
  | [], y :: m, _, _, h => by have := (h y).2 (List.mem_cons_self ..); cases this
  | x :: l, [], _, _, h => by have := (h x).1 (List.mem_cons_self ..); cases this
  | x :: l, y :: m, hl, hm, h => by
    rw [List.pairwise_cons] at hl hm
    have hxy : x = y := by
      have h1 := (h x).1 (List.mem_cons_self ..)
      have h2 := (h y).2 (List.mem_cons_self ..)
      rcases List.mem_cons.1 h1 with e | h1
      · exact e
      · rcases List.mem_cons.1 h2 with e | h2
        · exact e.symm
        · have := hl.1 y h2; have := hm.1 x h1; omega
    subst hxy
    congr 1
    refine rising_eq hl.2 hm.2 fun z => ⟨fun hz => ?_, fun hz => ?_⟩
    · have := (h z).1 (List.mem_cons_of_mem _ hz)
      rcases List.mem_cons.1 this with e | h'
      · have := hl.1 z hz; omega
      · exact h'
    · have := (h z).2 (List.mem_cons_of_mem _ hz)
      rcases List.mem_cons.1 this with e | h'
      · have := hm.1 z hz; omega
      · exact h'

/-- an order that the edges allow, so far -/
inductive Good (A : List (List Nat)) (n : Nat) : List Nat → Prop
  | nil : Good A n []
  | snoc {l : List Nat} {i : Nat} : Good A n l → i ∉ l → i < n → (∀ x ∈ anc A i, x ∈ l) → Good A n (l ++ [i])
variable {A : List (List Nat)} {n : Nat}
theorem Good.closed {l : List Nat} (h : Good A n l) : ∀ x ∈ l, ∀ y ∈ anc A x, y ∈ l := by
  induction h with
  | nil => intro x hx; cases hx
  | snoc _ _ _ ha ih =>
    intro x hx y hy
    rcases List.mem_append.1 hx with hx | hx
    · exact List.mem_append.2 (.inl (ih x hx y hy))
    · rw [List.mem_singleton] at hx; subst hx; exact List.mem_append.2 (.inl (ha y hy))
theorem Good.lt {l : List Nat} (h : Good A n l) : ∀ x ∈ l, x < n := by
  induction h with
  | nil => intro x hx; cases hx
  | snoc _ _ hi _ ih =>
    intro x hx
    rcases List.mem_append.1 hx with hx | hx
    · exact ih x hx
    · rw [List.mem_singleton] at hx; subst hx; exact hi
theorem Good.nodup {l : List Nat} (h : Good A n l) : l.Nodup := by
  induction h with
  | nil => exact List.nodup_nil
  | snoc _ hi _ _ ih => rw [List.nodup_append]; exact ⟨ih, by simp, fun a ha b hb e => by rw [List.mem_singleton] at hb; subst hb; exact hi (e ▸ ha)⟩
theorem Good.rising {l : List Nat} (h : Good A n l) (W : Nat → Bool) (hc : ∀ i j, i < j → j < n → W i = true → W j = true → i ∈ anc A j) : (l.filter W).Pairwise (· < ·) := by
  induction h with
  | nil => exact List.Pairwise.nil
  | @snoc l i hg hi hin ha ih =>
    rw [List.filter_append]
    rw [List.pairwise_append]
    refine ⟨ih, ?_, fun x hx y hy => ?_⟩
    · simp only [List.filter_cons, List.filter_nil]; split <;> simp
    · obtain ⟨hy1, hy2⟩ := List.mem_filter.1 hy
      rw [List.mem_singleton] at hy1; subst hy1
      obtain ⟨hx1, hx2⟩ := List.mem_filter.1 hx
      rcases Nat.lt_trichotomy x y with h | h | h
      · exact h
      · subst h; exact absurd hx1 hi
      · exact absurd (hg.closed x hx1 y (hc y x h (hg.lt x hx1) hy2 hx2)) hi
theorem range_rising (m : Nat) (W : Nat → Bool) : ((List.range m).filter W).Pairwise (· < ·) := (List.pairwise_lt_range).filter _

/-- what a reader finds is what it finds in the order of the text -/
theorem Good.reads {l : List Nat} (h : Good A n l) {i : Nat} (hi : i ∉ l) (hin : i < n) (ha : ∀ x ∈ anc A i, x ∈ l) (W : Nat → Bool)
    (hc : ∀ a b, a < b → b < n → W a = true → W b = true → a ∈ anc A b) (h1 : ∀ x, x < i → W x = true → x ∈ anc A i) (h2 : ∀ x, i < x → x < n → W x = true → i ∈ anc A x) :
    l.filter W = (List.range i).filter W := by
  refine rising_eq (h.rising W hc) (range_rising i W) fun x => ?_
  rw [List.mem_filter, List.mem_filter, List.mem_range]
  refine ⟨fun ⟨hx, hW⟩ => ⟨?_, hW⟩, fun ⟨hx, hW⟩ => ⟨ha x (h1 x hx hW), hW⟩⟩
  rcases Nat.lt_trichotomy x i with hlt | he | hgt
  · exact hlt
  · subst he; exact absurd hx hi
  · exact absurd (h.closed x hx i (h2 x hgt (h.lt x hx) hW)) hi
theorem Good.full {l : List Nat} (h : Good A n l) (hall : ∀ x, x < n → x ∈ l) (W : Nat → Bool) (hc : ∀ a b, a < b → b < n → W a = true → W b = true → a ∈ anc A b) :
    l.filter W = (List.range n).filter W := by
  refine rising_eq (h.rising W hc) (range_rising n W) fun x => ?_
  rw [List.mem_filter, List.mem_filter, List.mem_range]
  exact ⟨fun ⟨hx, hW⟩ => ⟨h.lt x hx, hW⟩, fun ⟨hx, hW⟩ => ⟨hall x hx, hW⟩⟩
end
end Go.Sx
