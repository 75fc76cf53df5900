import Derived.Test.YtmeebemkoakkmaaGreatDoorSxS
set_option linter.all false
/-
  Contracts of functions that reckon with values alone.
-/
noncomputable section
namespace Go.Sx
open Go

/-- a class of bases that a callee's base is of as well -/
def GOk (GB : Base → Prop) : Prop :=
  ∀ (B : Base) (η : Env) (hp : Hp) (w : World), GB B → HRep B η hp w → ∀ L : Nat → Prop, (∀ a, L a → ∃ i b, hget hp i = some b ∧ b.rw = true ∧ a = η.adr i) → GB ⟨w, L⟩

mutual
def SV.unl : SV → SV
  | .lit k n => .int k n
  | .lb b => .bool b
  | .agg cs => .agg (unls cs)
  | .tup cs => .tup (unls cs)
  | v => v
def unls : List SV → List SV
  | [] => []
  | v :: vs => v.unl :: unls vs
end
mutual
theorem SV.unl_den (η : Env) : ∀ v : SV, v.unl.den η = v.den η
  | .lit k n => rfl
  | .lb b => rfl
  | .agg cs => by rw [SV.unl, SV.den, SV.den, unls_den η cs]
  | .tup cs => by rw [SV.unl, SV.den, SV.den, unls_den η cs]
  | .int .. | .bool _ | .str _ | .ptr .. | .pti .. | .nilp | .sl .. | .nils | .fn .. | .nilf | .iface .. | .nili | .val _ | .jk _ | .yl _ | .mref _ => rfl
theorem unls_den (η : Env) : ∀ vs : List SV, dens η (unls vs) = dens η vs
  | [] => rfl
  | v :: vs => by rw [unls, dens, dens, SV.unl_den η v, unls_den η vs]
end
mutual
theorem SV.unl_men (p : Nat → Bool) : ∀ v : SV, v.unl.men p = v.men p
  | .lit k n => rfl
  | .lb b => rfl
  | .agg cs => by rw [SV.unl, SV.men, SV.men, unls_men p cs]
  | .tup cs => by rw [SV.unl, SV.men, SV.men, unls_men p cs]
  | .int .. | .bool _ | .str _ | .ptr .. | .pti .. | .nilp | .sl .. | .nils | .fn .. | .nilf | .iface .. | .nili | .val _ | .jk _ | .yl _ | .mref _ => rfl
theorem unls_men (p : Nat → Bool) : ∀ vs : List SV, mens p (unls vs) = mens p vs
  | [] => rfl
  | v :: vs => by rw [unls, mens, mens, SV.unl_men p v, unls_men p vs]
end
mutual
def SV.lit' : SV → SV
  | .int k n => .lit k n
  | .bool b => .lb b
  | .agg cs => .agg (lits cs)
  | .tup cs => .tup (lits cs)
  | v => v
def lits : List SV → List SV
  | [] => []
  | v :: vs => v.lit' :: lits vs
end
mutual
theorem SV.lit_den (η : Env) : ∀ v : SV, v.lit'.den η = v.den η
  | .int k n => rfl
  | .bool b => rfl
  | .agg cs => by rw [SV.lit', SV.den, SV.den, lits_den η cs]
  | .tup cs => by rw [SV.lit', SV.den, SV.den, lits_den η cs]
  | .lit .. | .lb _ | .str _ | .ptr .. | .pti .. | .nilp | .sl .. | .nils | .fn .. | .nilf | .iface .. | .nili | .val _ | .jk _ | .yl _ | .mref _ => rfl
theorem lits_den (η : Env) : ∀ vs : List SV, dens η (lits vs) = dens η vs
  | [] => rfl
  | v :: vs => by rw [lits, dens, dens, SV.lit_den η v, lits_den η vs]
end
mutual
theorem SV.lit_men (p : Nat → Bool) : ∀ v : SV, v.lit'.men p = v.men p
  | .int k n => rfl
  | .bool b => rfl
  | .agg cs => by rw [SV.lit', SV.men, SV.men, lits_men p cs]
  | .tup cs => by rw [SV.lit', SV.men, SV.men, lits_men p cs]
  | .lit .. | .lb _ | .str _ | .ptr .. | .pti .. | .nilp | .sl .. | .nils | .fn .. | .nilf | .iface .. | .nili | .val _ | .jk _ | .yl _ | .mref _ => rfl
theorem lits_men (p : Nat → Bool) : ∀ vs : List SV, mens p (lits vs) = mens p vs
  | [] => rfl
  | v :: vs => by rw [lits, mens, mens, SV.lit_men p v, lits_men p vs]
end
theorem fixOk_lit : FixOk SV.lit' := ⟨fun v η => SV.lit_den η v, fun v p => SV.lit_men p v⟩

mutual
/-- all literals? -/
def SV.litB : SV → Bool
  | .int .. | .bool _ => false
  | .agg cs => litsB cs
  | .tup cs => litsB cs
  | _ => true
def litsB : List SV → Bool
  | [] => true
  | v :: vs => match v.litB with
    | true => litsB vs
    | false => false
end

/-- a function of values: what it owes, and what it yields -/
def pureC (spec : List SV → Option (List Ob × SV)) : FC where
  need := fun _ _ => []
  res := fun _ _ vs => match mens (fun _ => true) vs with
    | true => .fail
    | false => match spec (unls vs) with
      | some (o, v) => .one ⟨o, match litsB vs with | true => v.lit' | false => v, []⟩
      | none => .fail
  loc := fun _ _ _ _ _ => rfl

theorem mens_none {vs : List SV} (h : mens (fun _ => true) vs = false) (p : Nat → Bool) : mens p vs = false := mens_mono (fun j hj => by simp at hj) vs h
theorem men_none {v : SV} (h : v.men (fun _ => true) = false) (p : Nat → Bool) : v.men p = false := SV.men_mono (fun j hj => by simp at hj) v h

theorem HRep.keepAll {B : Base} {η : Env} {hp : Hp} {w w' : World} (h : HRep B η hp w) (hs : w.heap.size ≤ w'.heap.size) (hk : ∀ j, j < w.heap.size → w'.heap[j]? = w.heap[j]?) (h1 : w'.os = w.os) (h2 : w'.tape = w.tape) (h3 : w'.output = w.output) :
    HRep B η hp w' := by
  have hk' : ∀ j o, w.heap[j]? = some o → w'.heap[j]? = some o := fun j o ho => by
    rw [hk j (by
      rcases Nat.lt_or_ge j w.heap.size with h | h
      · exact h
      · rw [Array.getElem?_eq_none h] at ho; cases ho)]; exact ho
  refine ⟨fun i b hg => ?_, h.apart, h.mine, fun i r hg => ?_, h.lmine, h.lapart, Nat.le_trans h.size hs, fun j hj hl => ?_, h1.trans h.os, h2.trans h.tape, h3.trans h.output⟩
  · obtain ⟨a, c, T, fr, b1, b2, b3⟩ := h.blk i b hg
    exact ⟨a, c, T, fr, hk' _ _ b1, b2, b3⟩
  · have := h.loops i r hg
    unfold LRec.rep at this ⊢
    split at this
    · rename_i hm; rw [if_pos hm]; exact ⟨this.1, hk' _ _ this.2⟩
    · rename_i hm; rw [if_neg hm]; obtain ⟨⟨fn, h4⟩, h5⟩ := this; exact ⟨⟨fn, hk' _ _ h4⟩, hk' _ _ h5⟩
  · rw [hk j (Nat.lt_of_lt_of_le hj h.size)]; exact h.kept j hj hl

/-- a walk's end: the value is this one -/
def isRet (v : SV) (x : CExit) : Prop := ∃ u, x = .ret u ∧ ∀ η, u.den η = v.den η

section
variable {P : Program} {GB : Base → Prop}
theorem pureC_ok' (hG : GOk GB) {sC : Bool → Code → St → SK → Prop} (hC : CodeOk P GB sC) {f : FuncId} {spec : List SV → Option (List Ob × SV)}
    (h : ∀ vs o v, spec vs = some (o, v) → mens (fun _ => true) vs = false → (∀ q ∈ o, q) → v.men (fun _ => true) = false ∧ ∃ vs', (∀ η, dens η vs' = dens η vs) ∧ mens (fun _ => true) vs' = false ∧ enterC P sC f vs' [] 0 fun x _ _ => isRet v x) : (pureC spec).ok P GB f := by
  intro B hB η hp w key vs e p hp0 hs hR hf hm
  simp only [pureC] at hs
  split at hs
  · exact hs.elim
  · rename_i hmn
    split at hs
    · rename_i o v hsp
      obtain ⟨rfl, ho⟩ := hs
      obtain ⟨hv, vs', hd', hm', hent⟩ := h _ o v hsp (by rw [unls_men]; exact hmn) ho
      have hR0 : HRep ⟨w, fun _ => False⟩ η [] w :=
        ⟨fun i b hg => (by cases hg), fun i j b c h1 _ _ => (by cases h1), fun i b hg => (by cases hg), fun i b hg => (by cases hg), fun i b hg => (by cases hg), fun i j r s hg _ _ => (by cases hg), Nat.le_refl _, fun _ _ _ => rfl, rfl, rfl, rfl⟩
      have hB0 : GB ⟨w, fun _ => False⟩ := hG B η hp w hB hR _ fun a ha => ha.elim
      have hmu : mens (ge 0) vs' = false := mens_none hm' _
      obtain ⟨h1, h2⟩ := enterC_ok hC hent hB0 hR0 rfl hmu
      rw [hd', unls_den] at h1 h2
      unfold CallsX
      rw [h1]
      refine Calls.mono (callsIn_wide.1 h2) fun r w' hpost => ?_
      obtain ⟨x, hp', nx', η', ⟨u, rfl, hu⟩, hrr, hh, hlk, hn, hff, hxm⟩ := hpost
      simp only [CExit.rel] at hrr
      refine ⟨η, ?_, hR.keepAll hh.size (fun j hj => hh.kept j hj (by simp)) hh.os hh.tape hh.output, η.like_refl _⟩
      rw [hrr, hu]
      have hvd : v.den η' = v.den η := SV.den_like (p := fun _ => true) (fun j hj => by simp at hj) v hv
      rw [hvd]
      split
      · rw [SV.lit_den]
      · rfl
    · exact hs.elim
theorem pureC_ok (hG : GOk GB) {sC : Bool → Code → St → SK → Prop} (hC : CodeOk P GB sC) {f : FuncId} {spec : List SV → Option (List Ob × SV)}
    (h : ∀ vs o v, spec vs = some (o, v) → (∀ q ∈ o, q) → v.men (fun _ => true) = false ∧ enterC P sC f vs [] 0 fun x _ _ => isRet v x) : (pureC spec).ok P GB f :=
  pureC_ok' hG hC fun vs o v hs hm ho => ⟨(h vs o v hs ho).1, vs, fun _ => rfl, hm, (h vs o v hs ho).2⟩
end
end Go.Sx
