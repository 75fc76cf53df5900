import Derived.Test.YtmeebemkoakkmaaGreatDoorSxPF
set_option linter.all false
/-
  Ranges of numbers; tables of contracts.
-/
noncomputable section
namespace Go.Sx
open Go

/-- a number of a kind -/
def inR : IntKind → Int → Prop
  | .i8, n => -128 ≤ n ∧ n ≤ 127
  | .i16, n => -32768 ≤ n ∧ n ≤ 32767
  | .i32, n => -2147483648 ≤ n ∧ n ≤ 2147483647
  | .i64, n => -9223372036854775808 ≤ n ∧ n ≤ 9223372036854775807
  | .u8, n => 0 ≤ n ∧ n ≤ 255
  | .u16, n => 0 ≤ n ∧ n ≤ 65535
  | .u32, n => 0 ≤ n ∧ n ≤ 4294967295
  | .u64, n => 0 ≤ n ∧ n ≤ 18446744073709551615
instance (k : IntKind) (n : Int) : Decidable (inR k n) := by cases k <;> exact instDecidableAnd
theorem inR_wrap (k : IntKind) (n : Int) : inR k (k.wrap n) := by
  cases k <;> simp only [inR, IntKind.wrap, IntKind.bits, IntKind.signed] <;> simp <;> (try split) <;> omega
theorem inR_bit (op : BinOp) (k : IntKind) (a b : Int) : inR k (bitI op k a b) := by
  unfold bitI; cases op <;> exact inR_wrap _ _
theorem fdiv_nat (a : Int) (m : Nat) : a.fdiv (2 ^ m) = a / (2 ^ m : Int) := Int.fdiv_eq_ediv_of_nonneg _ (by
  have : (0 : Int) < 2 ^ m := Int.pow_pos (by decide)
  omega)
theorem fdiv_mid {a : Int} (m : Nat) {lo hi : Int} (h1 : lo ≤ a) (h2 : a ≤ hi) (h3 : lo ≤ 0) (h4 : 0 ≤ hi) : lo ≤ a.fdiv (2 ^ m) ∧ a.fdiv (2 ^ m) ≤ hi := by
  rw [fdiv_nat]
  have hp : (0 : Int) < 2 ^ m := Int.pow_pos (by decide)
  constructor
  · rw [Int.le_ediv_iff_mul_le hp]
    have : lo * 2 ^ m ≤ lo * 1 := Int.mul_le_mul_of_nonpos_left h3 (by omega)
    omega
  · refine Int.le_trans (Int.ediv_le_ediv hp h2) ?_
    exact Int.ediv_le_self _ h4
theorem inR_shr {k : IntKind} {a : Int} (m : Nat) (h : inR k a) : inR k (a.fdiv (2 ^ m)) := by
  cases k <;> exact fdiv_mid m h.1 h.2 (by decide) (by decide)
theorem tmod_le {a : Int} (h : 0 ≤ a) (b : Int) : a.tmod b ≤ a := by
  obtain ⟨n, rfl⟩ := Int.eq_ofNat_of_zero_le h
  rcases Int.le_total 0 b with hb | hb
  · obtain ⟨m, rfl⟩ := Int.eq_ofNat_of_zero_le hb
    rw [← Int.ofNat_tmod]; exact Int.ofNat_le.2 (Nat.mod_le _ _)
  · obtain ⟨m, hm⟩ := Int.eq_ofNat_of_zero_le (show 0 ≤ -b by omega)
    have : b = -(m : Int) := by omega
    subst this
    rw [Int.tmod_neg, ← Int.ofNat_tmod]; exact Int.ofNat_le.2 (Nat.mod_le _ _)
theorem tmod_mid {a b lo hi : Int} (h1 : lo ≤ a) (h2 : a ≤ hi) (h3 : lo ≤ 0) (h4 : 0 ≤ hi) : lo ≤ a.tmod b ∧ a.tmod b ≤ hi := by
  rcases Int.le_total 0 a with h | h
  · have := Int.tmod_nonneg b h
    have h5 : a.tmod b ≤ a := tmod_le h b
    omega
  · have h6 : a.tmod b = -((-a).tmod b) := by rw [Int.neg_tmod]; omega
    have h7 : 0 ≤ -a := by omega
    have := Int.tmod_nonneg b h7
    have := tmod_le h7 b
    omega
theorem inR_mod {k : IntKind} {a : Int} (b : Int) (h : inR k a) : inR k (a.tmod b) := by
  cases k <;> exact tmod_mid h.1 h.2 (by decide) (by decide)
theorem inR_if {k : IntKind} {c : Prop} [Decidable c] {a b : Int} (ha : inR k a) (hb : inR k b) : inR k (if c then a else b) := by
  split <;> assumption
theorem inR_min {k : IntKind} {a b : Int} (ha : inR k a) (hb : inR k b) : inR k (min a b) := by
  rcases Int.le_total a b with h | h
  · rw [Int.min_eq_left h]; exact ha
  · rw [Int.min_eq_right h]; exact hb
theorem inR_max {k : IntKind} {a b : Int} (ha : inR k a) (hb : inR k b) : inR k (max a b) := by
  rcases Int.le_total a b with h | h
  · rw [Int.max_eq_right h]; exact hb
  · rw [Int.max_eq_left h]; exact ha
theorem inR_getD {k : IntKind} {l : List Int} (h : (l.all fun x => decide (inR k x)) = true) (h0 : inR k 0) (n : Nat) : inR k (l.getD n 0) := by
  rw [List.getD_eq_getElem?_getD]
  rcases Nat.lt_or_ge n l.length with hn | hn
  · rw [List.getElem?_eq_getElem hn]
    exact of_decide_eq_true (List.all_eq_true.1 h _ (List.getElem_mem hn))
  · rw [List.getElem?_eq_none hn]; exact h0
theorem inR_getD' {k : IntKind} {l : List Int} (h : ∀ x ∈ l, inR k x) (h0 : inR k 0) (n : Nat) : inR k (l.getD n 0) := by
  rw [List.getD_eq_getElem?_getD]
  rcases Nat.lt_or_ge n l.length with hn | hn
  · rw [List.getElem?_eq_getElem hn]
    exact h _ (List.getElem_mem hn)
  · rw [List.getElem?_eq_none hn]; exact h0
theorem wr_u8 (n : Int) : IntKind.u8.wrap n = n % 256 := by simp [IntKind.wrap, IntKind.bits, IntKind.signed]
theorem wr_u16 (n : Int) : IntKind.u16.wrap n = n % 65536 := by simp [IntKind.wrap, IntKind.bits, IntKind.signed]
theorem wr_u32 (n : Int) : IntKind.u32.wrap n = n % 4294967296 := by simp [IntKind.wrap, IntKind.bits, IntKind.signed]
theorem wr_u64 (n : Int) : IntKind.u64.wrap n = n % 18446744073709551616 := by simp [IntKind.wrap, IntKind.bits, IntKind.signed]
theorem wr_i8 (n : Int) : IntKind.i8.wrap n = (n + 128) % 256 - 128 := by simp only [IntKind.wrap, IntKind.bits, IntKind.signed]; simp; split <;> omega
theorem wr_i16 (n : Int) : IntKind.i16.wrap n = (n + 32768) % 65536 - 32768 := by simp only [IntKind.wrap, IntKind.bits, IntKind.signed]; simp; split <;> omega
theorem wr_i32 (n : Int) : IntKind.i32.wrap n = (n + 2147483648) % 4294967296 - 2147483648 := by simp only [IntKind.wrap, IntKind.bits, IntKind.signed]; simp; split <;> omega
theorem wr_i64 (n : Int) : IntKind.i64.wrap n = (n + 9223372036854775808) % 18446744073709551616 - 9223372036854775808 := by simp only [IntKind.wrap, IntKind.bits, IntKind.signed]; simp; split <;> omega
/-- not -/
def nb (b : Bool) : Bool := !b
theorem nb_t {b : Bool} : (nb b = true) = (b = false) := by cases b <;> simp [nb]
theorem nb_f {b : Bool} : (nb b = false) = (b = true) := by cases b <;> simp [nb]
def bAnd (a b : Bool) : Bool := a && b
def bOr (a b : Bool) : Bool := a || b
theorem bAnd_t {a b : Bool} : (bAnd a b = true) = (a = true ∧ b = true) := by cases a <;> cases b <;> simp [bAnd]
theorem bAnd_f {a b : Bool} : (bAnd a b = false) = (a = false ∨ b = false) := by cases a <;> cases b <;> simp [bAnd]
theorem bOr_t {a b : Bool} : (bOr a b = true) = (a = true ∨ b = true) := by cases a <;> cases b <;> simp [bOr]
theorem bOr_f {a b : Bool} : (bOr a b = false) = (a = false ∧ b = false) := by cases a <;> cases b <;> simp [bOr]
theorem clash {b : Bool} {p : Prop} (h : b = true) (h' : b = false) : p := by rw [h] at h'; cases h'
theorem nn8 {n : Int} (h : inR .u8 n) : 0 ≤ n := h.1
theorem nn16 {n : Int} (h : inR .u16 n) : 0 ≤ n := h.1
theorem nn32 {n : Int} (h : inR .u32 n) : 0 ≤ n := h.1
theorem nn64 {n : Int} (h : inR .u64 n) : 0 ≤ n := h.1
theorem ifF {α : Type} {c : Bool} {a b : α} (h : c = false) : (if c = true then a else b) = b := by subst h; rfl
theorem isRet_mk {v u : SV} (h : ∀ η, u.den η = v.den η) : isRet v (.ret u) := ⟨u, rfl, h⟩

def ctab (l : List (Nat × FC)) (f : Nat) : Option FC :=
  List.rec (motive := fun _ => Option FC) none (fun h _ ih => match Nat.beq h.1 f with
    | true => some h.2
    | false => ih) l
section
variable {P : Program} {GB : Base → Prop}
theorem ctab_nil : CtabOk P GB (ctab []) := fun f C h => by cases h
theorem ctab_cons {f : Nat} {C : FC} {l : List (Nat × FC)} (h : C.ok P GB f) (hl : CtabOk P GB (ctab l)) : CtabOk P GB (ctab ((f, C) :: l)) := fun g D hg => by
  have : ctab ((f, C) :: l) g = match Nat.beq f g with | true => some C | false => ctab l g := rfl
  rw [this] at hg
  split at hg
  · rename_i he
    have := Nat.eq_of_beq_eq_true he
    subst this
    simp only [Option.some.injEq] at hg; subst hg; exact h
  · exact hl g D hg
end
end Go.Sx
namespace Go.Sx
open Go
theorem gen_ok {P : Program} {GB : Base → Prop} (hG : GOk GB) {Γ : Ctab} (hΓ : CtabOk P GB Γ) (hm : P.follows .mixedOrders = true) {f : FuncId} {spec : List SV → Option (List Ob × SV)}
    (h : ∀ vs o v, spec vs = some (o, v) → (∀ q ∈ o, q) → v.men (fun _ => true) = false ∧ enterC P (symC P id Γ Γ 1000 noHints) f vs [] 0 fun x _ _ => isRet v x) : (pureC spec).ok P GB f :=
  pureC_ok hG (symC_ok fixOk_id hΓ hΓ hm 1000 noHints) h
end Go.Sx
