import Derived.Orders
import Derived.Laws.Sem
import Derived.Laws.World
import Derived.Below
set_option linter.all false
/-
  Symbolic values, blocks, states, effects. (Leaves are Lean terms.)
-/
noncomputable section
namespace Go.Sx
open Go

/-- where our blocks lie, and how many elements a row of unknown capacity has -/
structure Env where
  adr : Nat → Nat
  cap : Nat → Nat
  jk : Nat → Value

inductive Cap where
  | known (n : Nat)
  | free
def Cap.of (η : Env) (id : Nat) : Cap → Nat
  | .known n => n
  | .free => η.cap id

inductive SV where
  | lit (k : IntKind) (n : Int)
  | int (k : IntKind) (n : Int)
  | lb (b : Bool)
  | bool (b : Bool)
  | str (s : List UInt8)
  | ptr (id off : Nat)
  | pti (id off sz n : Nat) (i : Int)
  | nilp
  | sl (id off len : Nat) (cap : Cap)
  | nils
  | fn (f : Fn) (first caps : List SV)
  | nilf
  | iface (t : TypeId) (v : SV)
  | nili
  | agg (cs : List SV)
  | tup (vs : List SV)
  | val (v : Value)
  | jk (i : Nat)
  | yl (i : Nat)
  | mref (i : Nat)

mutual
def SV.den (η : Env) : SV → Value
  | .lit k n => .int k n
  | .int k n => .int k n
  | .lb b => .bool b
  | .bool b => .bool b
  | .str s => .string ⟨s.toArray⟩
  | .ptr id o => .pointer (some ⟨η.adr id, o, none⟩)
  | .pti id o sz _ i => .pointer (some ⟨η.adr id, o + i.toNat * sz, none⟩)
  | .nilp => .pointer none
  | .sl id o l c => .slice (some ⟨η.adr id, o, none⟩) l (c.of η id)
  | .nils => .slice none 0 0
  | .fn f x c => .func f (dens η x).toArray (dens η c).toArray
  | .nilf => .nilFunc
  | .iface t v => .iface t (v.den η)
  | .nili => .nilIface
  | .agg cs => .agg (dens η cs).toArray
  | .tup vs => .tuple (dens η vs).toArray
  | .val v => v
  | .jk i => η.jk i
  | .yl i => .func (.yield (η.adr i)) #[] #[]
  | .mref i => .map (some (η.adr i))
def dens (η : Env) : List SV → List Value
  | [] => []
  | v :: vs => v.den η :: dens η vs
end

mutual
/-- does it name a block of those? -/
def SV.men (p : Nat → Bool) : SV → Bool
  | .ptr id _ => p id
  | .pti id _ _ _ _ => p id
  | .sl id _ _ _ => p id
  | .fn _ x c => mens p x || mens p c
  | .iface _ v => v.men p
  | .agg cs => mens p cs
  | .tup vs => mens p vs
  | .jk i => p i
  | .yl i => p i
  | .mref i => p i
  | _ => false
def mens (p : Nat → Bool) : List SV → Bool
  | [] => false
  | v :: vs => v.men p || mens p vs
end

/-- alike but for those blocks -/
def Env.like (η η' : Env) (p : Nat → Bool) : Prop := ∀ j, p j = false → η'.adr j = η.adr j ∧ η'.cap j = η.cap j ∧ η'.jk j = η.jk j
def Env.set (η : Env) (k a c : Nat) : Env := ⟨fun j => if j = k then a else η.adr j, fun j => if j = k then c else η.cap j, η.jk⟩
theorem Env.like_refl (η : Env) (p : Nat → Bool) : η.like η p := fun _ _ => ⟨rfl, rfl, rfl⟩
theorem Env.like_set (η : Env) (k a c : Nat) {p : Nat → Bool} (h : p k = true) : η.like (η.set k a c) p := fun j hj => by
  have : j ≠ k := fun e => by rw [e, h] at hj; cases hj
  simp [Env.set, this]
theorem Env.like.trans {η η' η'' : Env} {p : Nat → Bool} (h : η.like η' p) (h' : η'.like η'' p) : η.like η'' p := fun j hj =>
  ⟨(h' j hj).1.trans (h j hj).1, (h' j hj).2.1.trans (h j hj).2.1, (h' j hj).2.2.trans (h j hj).2.2⟩
theorem Env.like.mono {η η' : Env} {p q : Nat → Bool} (h : η.like η' p) (hpq : ∀ j, q j = false → p j = false) : η.like η' q := fun j hj => h j (hpq j hj)

mutual
theorem SV.den_like {η η' : Env} {p : Nat → Bool} (hl : η.like η' p) : ∀ v : SV, v.men p = false → v.den η' = v.den η
  | .lit .., _ | .int .., _ | .lb _, _ | .bool _, _ | .str _, _ | .nilp, _ | .nils, _ | .nilf, _ | .nili, _ | .val _, _ => rfl
  | .ptr id o, h => by
    have := hl id (by simpa [SV.men] using h)
    simp [SV.den, this.1]
  | .pti id o sz n i, h => by
    have := hl id (by simpa [SV.men] using h)
    simp [SV.den, this.1]
  | .sl id o l cp, h => by
    have := hl id (by simpa [SV.men] using h)
    cases cp <;> simp [SV.den, this.1, Cap.of, this.2.1]
  | .jk i, h => by
    have := hl i (by simpa [SV.men] using h)
    simp [SV.den, this.2.2]
  | .yl i, h => by
    have := hl i (by simpa [SV.men] using h)
    simp [SV.den, this.1]
  | .mref i, h => by
    have := hl i (by simpa [SV.men] using h)
    simp [SV.den, this.1]
  | .fn f x cs, h => by
    simp only [SV.men, Bool.or_eq_false_iff] at h
    rw [SV.den, SV.den, dens_like hl x h.1, dens_like hl cs h.2]
  | .iface t v, h => by rw [SV.den, SV.den, SV.den_like hl v h]
  | .agg cs, h => by rw [SV.den, SV.den, dens_like hl cs h]
  | .tup cs, h => by rw [SV.den, SV.den, dens_like hl cs h]
theorem dens_like {η η' : Env} {p : Nat → Bool} (hl : η.like η' p) : ∀ vs : List SV, mens p vs = false → dens η' vs = dens η vs
  | [], _ => rfl
  | v :: vs, h => by
    simp only [mens, Bool.or_eq_false_iff] at h
    rw [dens, dens, SV.den_like hl v h.1, dens_like hl vs h.2]
end
theorem mens_mem {p : Nat → Bool} : ∀ {vs : List SV} {v : SV}, mens p vs = false → v ∈ vs → v.men p = false
  | u :: us, v, h, hm => by
    simp only [mens, Bool.or_eq_false_iff] at h
    rcases List.mem_cons.1 hm with rfl | hm
    · exact h.1
    · exact mens_mem h.2 hm

theorem dens_eq (η : Env) : ∀ l : List SV, dens η l = l.map (SV.den η)
  | [] => rfl
  | v :: vs => by rw [dens, dens_eq η vs]; rfl
theorem dens_length (η : Env) (l : List SV) : (dens η l).length = l.length := by rw [dens_eq]; simp
theorem dens_get? (η : Env) (l : List SV) (i : Nat) : (dens η l)[i]? = (l[i]?).map (SV.den η) := by rw [dens_eq]; simp
theorem dens_append (η : Env) (l m : List SV) : dens η (l ++ m) = dens η l ++ dens η m := by simp [dens_eq]
theorem dens_take (η : Env) (l : List SV) (n : Nat) : dens η (l.take n) = (dens η l).take n := by simp [dens_eq]
theorem dens_drop (η : Env) (l : List SV) (n : Nat) : dens η (l.drop n) = (dens η l).drop n := by simp [dens_eq]
theorem dens_set' (η : Env) (l : List SV) (n : Nat) (v : SV) : dens η (l.set n v) = (dens η l).set n (v.den η) := by simp [dens_eq]

def _root_.List.setN {α : Type} (l : List α) (n : Nat) (v : α) : List α :=
  List.rec (motive := fun _ => Nat → List α) (fun _ => []) (fun h t ih n => Nat.rec (v :: t) (fun m _ => h :: ih m) n) l n
@[simp] theorem _root_.List.setN_eq {α : Type} (l : List α) (n : Nat) (v : α) : l.setN n v = l.set n v := by
  induction l generalizing n with
  | nil => rfl
  | cons h t ih => cases n with
    | zero => rfl
    | succ m => simp only [List.set_cons_succ, ← ih m]; rfl
def _root_.List.nthK {α β : Type} (l : List α) (z : β) (k : α → β) (n : Nat) : β :=
  List.rec (motive := fun _ => Nat → β) (fun _ => z) (fun h _ ih n => Nat.rec (k h) (fun m _ => ih m) n) l n
theorem _root_.List.nthK_eq {α β : Type} (l : List α) (z : β) (k : α → β) (n : Nat) : l.nthK z k n = match l[n]? with | some a => k a | none => z := by
  induction l generalizing n with
  | nil => rfl
  | cons h t ih => cases n with
    | zero => rfl
    | succ m => simp only [List.getElem?_cons_succ]; rw [← ih m]; rfl
theorem _root_.List.nthK_some {α : Type} (l : List α) (n : Nat) : l.nthK none some n = l[n]? := by
  rw [List.nthK_eq]; cases l[n]? <;> rfl
def undefS : SV := .tup []
theorem undefS_den (η : Env) : undefS.den η = undef := rfl

/-- A symbolic value of one scalar value that is no aggregate. -/
def ofV1 : Value → SV
  | .bool b => .lb b
  | .int k n => .lit k n
  | .string s => .str s.data.toList
  | .pointer none => .nilp
  | .slice none 0 0 => .nils
  | .nilFunc => .nilf
  | .nilIface => .nili
  | v => .val v
theorem ofV1_den (η : Env) (v : Value) : (ofV1 v).den η = v := by
  unfold ofV1; split <;> rfl
def ofV : Value → SV
  | .agg cs => .agg (cs.toList.map ofV1)
  | v => ofV1 v
theorem dens_ofV1 (η : Env) (l : List Value) : dens η (l.map ofV1) = l := by
  rw [dens_eq, List.map_map]
  conv => rhs; rw [← List.map_id l]
  exact List.map_congr_left fun v _ => ofV1_den η v
theorem ofV_den (η : Env) (v : Value) : (ofV v).den η = v := by
  unfold ofV; split
  · simp [SV.den, dens_ofV1]
  · exact ofV1_den η _

/-! Blocks. -/
inductive SO where
  | cells (cs : List SV)
  | ints (k : IntKind) (xs : List Int)
  | strs (xs : List (List UInt8))
  | recs (sz : Nat) (cs : List SV)

/-- what the cells of a block are: of a row of capacity cp, what is known of it -/
def SO.rep (η : Env) (cp : Nat) : SO → List Value → Prop
  | .cells cs, l => l = dens η cs
  | .ints k xs, l => l.length = cp ∧ ∃ sp, l = xs.map (Value.int k ·) ++ sp
  | .strs xs, l => l.length = cp ∧ ∃ sp, l = xs.map (fun s => Value.string ⟨s.toArray⟩) ++ sp
  | .recs sz cs, l => l.length = cp * sz ∧ ∃ sp, l = dens η cs ++ sp

def SO.men (p : Nat → Bool) : SO → Bool
  | .cells cs => mens p cs
  | .recs _ cs => mens p cs
  | _ => false
/-- rw: may it be written? kc: its capacity, where that is known; fix: was it laid by a literal that is not empty? -/
structure Blk where
  rw : Bool
  kc : Option Nat
  fix : Bool
  so : SO

/-- The cells of one of ours: nobody has frozen them, if they may be written. -/
def Blk.rep (b : Blk) (η : Env) (i : Nat) (w : World) : Prop :=
  (∀ m, b.kc = some m → η.cap i = m) ∧ ∃ c T fr, w.heap[η.adr i]? = some (.cells c T fr) ∧ (b.rw = true → ∀ o, o < c.size → ¬ (fr.1 ≤ o ∧ o < fr.2)) ∧ b.so.rep η (η.cap i) c.toList

/-- a loop over a function, under way or behind: its record; or (mp) a map: key, value, key, value .. stand in tm -/
structure LRec where
  mp : Bool
  st : LoopState
  pend : Option Code
  tm : List SV
  ps : Array Tmp
  asg : Code
  body : Code
def entsOf : List Value → Nat → List MapEntry
  | k :: v :: r, n => ⟨k, v, n⟩ :: entsOf r (n + 1)
  | _, _ => []
def LRec.rep (r : LRec) (η : Env) (i : Nat) (w : World) : Prop := if r.mp = true then η.cap i = η.adr i ∧ w.heap[η.adr i]? = some (.map (entsOf (dens η r.tm) 0).toArray (entsOf (dens η r.tm) 0).length) else
  (∃ fn, w.heap[η.adr i]? = some (.loop { state := r.st, pending := r.pend, fn, tmps := (dens η r.tm).toArray, params := r.ps, assign := r.asg, body := r.body, defers := η.cap i })) ∧
    w.heap[η.cap i]? = some (.deferred (some []))

/-- what stands under a name -/
inductive Ent where
  | dead
  | blk (b : Blk)
  | loop (r : LRec)
def Ent.ofO : Option Blk → Ent
  | none => .dead
  | some b => .blk b
def Ent.toO : Ent → Option Blk
  | .blk b => some b
  | _ => none
def Ent.toL : Ent → Option LRec
  | .loop r => some r
  | _ => none
@[simp] theorem Ent.toO_ofO (b : Option Blk) : (Ent.ofO b).toO = b := by cases b <;> rfl
@[simp] theorem Ent.toL_ofO (b : Option Blk) : (Ent.ofO b).toL = none := by cases b <;> rfl

abbrev Hp := List (Nat × Ent)
def hget : Hp → Nat → Option Blk
  | [], _ => none
  | (i, b) :: r, j => if i = j then b.toO else hget r j
def lget : Hp → Nat → Option LRec
  | [], _ => none
  | (i, b) :: r, j => if i = j then b.toL else lget r j
def eset : Hp → Nat → Ent → Hp
  | [], j, b => [(j, b)]
  | (i, c) :: r, j, b => if i = j then (i, b) :: r else (i, c) :: eset r j b
def hset (h : Hp) (j : Nat) (b : Option Blk) : Hp := eset h j (.ofO b)
def lset (h : Hp) (j : Nat) (r : LRec) : Hp := eset h j (.loop r)
theorem hget_eset (h : Hp) (i j : Nat) (b : Ent) : hget (eset h i b) j = if i = j then b.toO else hget h j := by
  induction h with
  | nil => simp [eset, hget]
  | cons x r ih =>
    obtain ⟨k, c⟩ := x
    by_cases hk : k = i
    · subst hk; simp [eset, hget]; by_cases h : k = j <;> simp [h]
    · simp only [eset, hk, if_false, hget]
      by_cases h : k = j
      · subst h; simp [Ne.symm hk]
      · simp [h, ih]
theorem lget_eset (h : Hp) (i j : Nat) (b : Ent) : lget (eset h i b) j = if i = j then b.toL else lget h j := by
  induction h with
  | nil => simp [eset, lget]
  | cons x r ih =>
    obtain ⟨k, c⟩ := x
    by_cases hk : k = i
    · subst hk; simp [eset, lget]; by_cases h : k = j <;> simp [h]
    · simp only [eset, hk, if_false, lget]
      by_cases h : k = j
      · subst h; simp [Ne.symm hk]
      · simp [h, ih]
theorem hget_hset (h : Hp) (i j : Nat) (b : Option Blk) : hget (hset h i b) j = if i = j then b else hget h j := by rw [hset, hget_eset, Ent.toO_ofO]
theorem lget_hset (h : Hp) (i j : Nat) (b : Option Blk) : lget (hset h i b) j = if i = j then none else lget h j := by rw [hset, lget_eset, Ent.toL_ofO]
theorem hget_lset (h : Hp) (i j : Nat) (r : LRec) : hget (lset h i r) j = if i = j then none else hget h j := by rw [lset, hget_eset]; rfl
theorem lget_lset (h : Hp) (i j : Nat) (r : LRec) : lget (lset h i r) j = if i = j then some r else lget h j := by rw [lset, lget_eset]; rfl
theorem lget_of_hset {h : Hp} {i j : Nat} {b : Option Blk} {r : LRec} (hg : lget (hset h i b) j = some r) : lget h j = some r ∧ i ≠ j := by
  rw [lget_hset] at hg
  split at hg
  · cases hg
  · exact ⟨hg, ‹_›⟩
theorem hget_lget {h : Hp} {i : Nat} {r : LRec} (hl : lget h i = some r) : hget h i = none := by
  induction h with
  | nil => rfl
  | cons x t ih =>
    obtain ⟨k, c⟩ := x
    simp only [lget, hget] at hl ⊢
    split
    · rename_i hk; rw [if_pos hk] at hl; cases c <;> first | rfl | cases hl
    · rename_i hk; rw [if_neg hk] at hl; exact ih hl

/-- a call that is put off -/
inductive Dfr where
  | mark (id : Nat)
  | clo (f : FuncId) (caps : List SV)
def Dfr.den (η : Env) : Dfr → Deferred
  | .mark id => { target := .collected (η.cap id), args := #[] }
  | .clo f caps => { target := .fn (.func f) (dens η caps).toArray, args := #[] }
def Dfr.men (p : Nat → Bool) : Dfr → Bool
  | .mark id => p id
  | .clo _ caps => mens p caps
theorem Dfr.den_like {η η' : Env} {p : Nat → Bool} (hl : η.like η' p) : ∀ d : Dfr, d.men p = false → d.den η' = d.den η
  | .mark id, h => by have := hl id h; simp [Dfr.den, this.2.1]
  | .clo f caps, h => by simp only [Dfr.den]; rw [dens_like hl caps h]

structure St where
  tm : List SV
  hp : Hp
  nx : Nat
  df : List Dfr

def St.ev (σ : St) : Operand → SV
  | .tmp t => σ.tm.nthK undefS (fun v => v) t
  | .const v => ofV v
  | .global g => .val (.pointer (some ⟨g, 0, none⟩))
  | .func f => .fn (.func f) [] []

/-- what is owed: it can be decided -/
structure Ob where
  p : Prop
  d : Decidable p
instance : CoeSort Ob Prop := ⟨Ob.p⟩
instance (p : Prop) [d : Decidable p] : CoeDep Prop p Ob := ⟨⟨p, d⟩⟩
abbrev ob (p : Prop) [d : Decidable p] : Ob := ⟨p, d⟩
def Ob.yes (q : Ob) : Bool := @decide q.p q.d
theorem Ob.yes_iff (q : Ob) : q.yes = true ↔ q.p := @decide_eq_true_iff q.p q.d

/-- an effect -/
structure Eff where
  obl : List Ob
  val : SV
  sets : List (Nat × Option Blk)

def hsets (h : Hp) : List (Nat × Option Blk) → Hp
  | [] => h
  | (i, b) :: r => hsets (hset h i b) r

def St.app (σ : St) (dst : Option Tmp) (e : Eff) : St :=
  { tm := match dst with | some d => σ.tm.setN d e.val | none => σ.tm, hp := hsets σ.hp e.sets, nx := σ.nx, df := σ.df }

inductive Res where
  | fail
  | one (e : Eff)
  | alt (c : Ob) (e : Eff) (r : Res)

def withObl : List Ob → Prop → Prop
  | [], q => q
  | p :: ps, q => p ∧ withObl ps q
/-- asked, and decided by running -/
def chk (b : Bool) (p : Prop) : Prop := match b with
  | true => p
  | false => False
theorem chk_iff {b : Bool} {p : Prop} : chk b p ↔ b = true ∧ p := by cases b <;> simp [chk]
theorem chk_not {b : Bool} {p : Prop} : chk (!b) p ↔ b = false ∧ p := by cases b <;> simp [chk]
theorem withObl_iff (l : List Ob) (q : Prop) : withObl l q ↔ (∀ p ∈ l, p) ∧ q := by
  induction l with
  | nil => simp [withObl]
  | cons p ps ih => rw [withObl, ih, List.forall_mem_cons, and_assoc]

def Res.all : Res → (Eff → Prop) → Prop
  | .fail, _ => False
  | .one e, K => withObl e.obl (K e)
  | .alt c e r, K => (c → withObl e.obl (K e)) ∧ (¬ c → r.all K)

def Res.sat : Res → Eff → Prop
  | .fail, _ => False
  | .one e, e' => e' = e ∧ ∀ p ∈ e.obl, p
  | .alt c e r, e' => (c ∧ e' = e ∧ ∀ p ∈ e.obl, p) ∨ (¬ c ∧ r.sat e')

theorem Res.sat_fun : ∀ {r : Res} {e e' : Eff}, r.sat e → r.sat e' → e = e'
  | .fail, _, _, h, _ => h.elim
  | .one _, _, _, h, h' => h.1.trans h'.1.symm
  | .alt _ _ r, _, _, h, h' => by
    rcases h with ⟨hc, h, _⟩ | ⟨hc, h⟩ <;> rcases h' with ⟨hc', h', _⟩ | ⟨hc', h'⟩
    · exact h.trans h'.symm
    · exact absurd hc hc'
    · exact absurd hc' hc
    · exact Res.sat_fun h h'
theorem Res.all_sat : ∀ {r : Res} {K : Eff → Prop}, r.all K → ∃ e, r.sat e ∧ K e
  | .fail, _, h => h.elim
  | .one e, _, h => by
    rw [Res.all, withObl_iff] at h
    exact ⟨e, ⟨rfl, h.1⟩, h.2⟩
  | .alt c e r, K, h => by
    by_cases hc : c
    · have := h.1 hc
      rw [withObl_iff] at this
      exact ⟨e, .inl ⟨hc, rfl, this.1⟩, this.2⟩
    · obtain ⟨e', h1, h2⟩ := Res.all_sat (h.2 hc)
      exact ⟨e', .inr ⟨hc, h1⟩, h2⟩
theorem Res.all_of_sat {r : Res} {K : Eff → Prop} {e : Eff} (h : r.all K) (hs : r.sat e) : K e := by
  obtain ⟨e', h1, h2⟩ := Res.all_sat h
  exact Res.sat_fun h1 hs ▸ h2

/-! What a state stands for. -/
structure Base where
  w0 : World
  lent : Nat → Prop

structure HRep (B : Base) (η : Env) (hp : Hp) (w : World) : Prop where
  blk : ∀ i b, hget hp i = some b → b.rep η i w
  apart : ∀ i j b c, hget hp i = some b → hget hp j = some c → i ≠ j → η.adr i ≠ η.adr j
  mine : ∀ i b, hget hp i = some b → b.rw = true → B.w0.heap.size ≤ η.adr i ∨ B.lent (η.adr i)
  loops : ∀ i r, lget hp i = some r → r.rep η i w
  lmine : ∀ i r, lget hp i = some r → (B.w0.heap.size ≤ η.adr i ∨ B.lent (η.adr i)) ∧ (B.w0.heap.size ≤ η.cap i ∨ B.lent (η.cap i))
  lapart : ∀ i j r s, lget hp i = some r → lget hp j = some s → i ≠ j → η.adr i ≠ η.adr j ∧ η.cap i ≠ η.cap j
  size : B.w0.heap.size ≤ w.heap.size
  kept : ∀ j, j < B.w0.heap.size → ¬ B.lent j → w.heap[j]? = B.w0.heap[j]?
  os : w.os = B.w0.os
  tape : w.tape = B.w0.tape
  output : w.output = B.w0.output

structure Rep (B : Base) (η : Env) (σ : St) (a : Act) (w : World) : Prop where
  len : a.tmps.size = σ.tm.length
  tm : ∀ (t : Nat) (v : SV), σ.tm[t]? = some v → a.tmps[t]? = some (v.den η)
  hp : HRep B η σ.hp w
  df : a.defers = σ.df.map (Dfr.den η)

theorem Rep.eval {B : Base} {η : Env} {σ : St} {a : Act} {w : World} (h : Rep B η σ a w) (x : Operand) : a.eval x = (σ.ev x).den η := by
  cases x with
  | tmp t =>
    simp only [Act.eval, St.ev, List.nthK_eq]
    cases ht : σ.tm[t]? with
    | some v => have := h.tm t v ht; simp [Array.getD_eq_getD_getElem?, this]
    | none =>
      have h1 : σ.tm.length ≤ t := by simpa using ht
      have : a.tmps[t]? = none := by simp [h.len]; omega
      simp [Array.getD_eq_getD_getElem?, this, undefS_den]
  | const v => simp [Act.eval, St.ev, ofV_den]
  | global g => rfl
  | func f => simp [Act.eval, St.ev, SV.den, dens]

theorem Rep.evalF {B : Base} {η : Env} {σ : St} {a : Act} {w : World} (h : Rep B η σ a w) : a.eval = fun x => (σ.ev x).den η := funext h.eval

/-- The frame behind an effect that turns no memory. -/
theorem Rep.put {B : Base} {η : Env} {σ : St} {a : Act} {w : World} (h : Rep B η σ a w) (dst : Option Tmp) (v : SV) :
    Rep B η { tm := match dst with | some d => σ.tm.setN d v | none => σ.tm, hp := σ.hp, nx := σ.nx, df := σ.df } (a.put dst (v.den η)) w := by
  cases dst with
  | none => exact ⟨h.len, h.tm, h.hp, h.df⟩
  | some d =>
    refine ⟨by simp [Act.put, h.len], fun t u ht => ?_, h.hp, h.df⟩
    simp only [Act.put]
    rw [Array.getElem?_setIfInBounds]
    dsimp only at ht
    rw [List.setN_eq, List.getElem?_set] at ht
    by_cases hd : d = t
    · subst hd
      simp only [if_true] at ht ⊢
      split at ht
      · rename_i hlt
        rw [h.len, if_pos hlt]
        simp at ht; subst ht; rfl
      · cases ht
    · simp only [hd, if_false] at ht ⊢
      exact h.tm t u ht

end Go.Sx
