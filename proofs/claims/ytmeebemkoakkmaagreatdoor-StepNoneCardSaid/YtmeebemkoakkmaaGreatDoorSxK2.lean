import Derived.Test.YtmeebemkoakkmaaGreatDoorSxK
import Derived.RangeFuncRecord
set_option linter.all false
/-
  Maps whose keys are whole numbers.
-/
noncomputable section
namespace Go.Sx
open Go

def findS (k : IntKind) (n : Int) : List SV → Nat → Option (Option (Nat × SV))
  | .lit k' m :: v :: r, i => if k = k' then (if n = m then some (some (i, v)) else findS k n r (i + 1)) else none
  | [], _ => some none
  | _, _ => none

def mapS (P : Program) (ρ : Operand → SV) (lg : Nat → Option LRec) (key : Nat) : Op → Option (SV × Nat × LRec)
  | .makeMap _ none => some (.mref key, key, ⟨true, .ready, none, [], #[], .skip, .skip⟩)
  | .insert t m k x => match P.underlying t, ρ m, ρ k with
    | some (.map kt _), .mref id, .lit kk n => match P.underlying kt, lg id with
      | some (.int _), some r => if r.mp then match findS kk n r.tm 0 with
        | some none => some (undefS, id, { r with tm := r.tm ++ [.lit kk n, ρ x] })
        | _ => none
        else none
      | _, _ => none
    | _, _, _ => none
  | .lookup t m k false => match P.underlying t, ρ m, ρ k with
    | some (.map kt _), .mref id, .lit kk n => match P.underlying kt, lg id with
      | some (.int _), some r => if r.mp then match findS kk n r.tm 0 with
        | some (some (_, v)) => some (v, id, r)
        | _ => none
        else none
      | _, _ => none
    | _, _, _ => none
  | _ => none

section
variable {P : Program} {w : World} {η : Env}

theorem findS_none {k : IntKind} {n : Int} {d : IntKind} {v : Value} : ∀ {l : List SV} {i : Nat}, findS k n l i = some none →
    Instr.findNow (.int d) (.int k n) (entsOf (dens η l) i) i = some none ∧ entsOf (dens η l ++ [.int k n, v]) i = entsOf (dens η l) i ++ [⟨.int k n, v, i + (entsOf (dens η l) i).length⟩]
  | [], i, _ => ⟨rfl, rfl⟩
  | .lit k' m :: u :: r, i, h => by
    simp only [findS] at h
    split at h
    · rename_i hk
      split at h
      · cases h
      · rename_i hn
        obtain ⟨h1, h2⟩ := findS_none (d := d) (v := v) h
        simp only [dens, SV.den, entsOf, Instr.findNow, Instr.sameNow, hk, if_true, List.cons_append]
        have : (n == m) = false := by simpa using hn
        rw [hk] at h1 h2
        simp only [this]
        refine ⟨h1, ?_⟩
        rw [h2]
        simp only [List.cons_append, List.length_cons, List.cons.injEq, true_and]
        congr 2
        rw [show i + 1 + (entsOf (dens η r) (i + 1)).length = i + ((entsOf (dens η r) (i + 1)).length + 1) from by omega]
    · cases h
theorem findS_some {k : IntKind} {n : Int} {d : IntKind} {j : Nat} {u : SV} : ∀ {l : List SV} {i : Nat}, findS k n l i = some (some (j, u)) →
    Instr.findNow (.int d) (.int k n) (entsOf (dens η l) i) i = some (some (j, u.den η)) ∧ u ∈ l
  | .lit k' m :: x :: r, i, h => by
    simp only [findS] at h
    split at h
    · rename_i hk
      simp only [dens, SV.den, entsOf, Instr.findNow, Instr.sameNow, hk, if_true]
      split at h
      · rename_i hn
        simp only [Option.some.injEq, Prod.mk.injEq] at h; obtain ⟨rfl, rfl⟩ := h
        subst hn; simp
      · rename_i hn
        have : (n == m) = false := by simpa using hn
        simp only [this]
        obtain ⟨h1, h2⟩ := findS_some (d := d) h
        rw [hk] at h1
        exact ⟨h1, List.mem_cons_of_mem _ (List.mem_cons_of_mem _ h2)⟩
    · cases h
  | [], i, h => by simp [findS] at h

theorem heap_putObj (w : World) (k : Nat) (o : Obj) (j : Nat) : (w.putObj k o).heap[j]? = if k = j then (if k < w.heap.size then some o else none) else w.heap[j]? := by
  simp only [World.putObj, Array.getElem?_setIfInBounds]

theorem HRep.putObj {B : Base} {η : Env} {hp hp' : Hp} {w : World} {k : Nat} {o o' : Obj} (h : HRep B η hp w) (hk : w.heap[k]? = some o) (hno : ∀ c T fr, o ≠ .cells c T fr) (hm : B.w0.heap.size ≤ k ∨ B.lent k)
    (hb : ∀ i b, hget hp' i = some b → hget hp i = some b) (hl : ∀ i r, lget hp' i = some r → r.rep η i (w.putObj k o') ∧ ∃ r', lget hp i = some r') : HRep B η hp' (w.putObj k o') := by
  refine ⟨fun i b hg => ?_, fun i j b c h1 h2 => h.apart i j b c (hb i b h1) (hb j c h2), fun i b hg => h.mine i b (hb i b hg), fun i r hg => (hl i r hg).1, fun i r hg => let ⟨r', h'⟩ := (hl i r hg).2; h.lmine i r' h',
    fun i j r s h1 h2 => let ⟨r', h1'⟩ := (hl i r h1).2; let ⟨s', h2'⟩ := (hl j s h2).2; h.lapart i j r' s' h1' h2', by simpa using h.size, fun j hj hn => ?_, h.os, h.tape, h.output⟩
  · obtain ⟨hkc, c, T, fr, hc, hfr, hr⟩ := h.blk i b (hb i b hg)
    refine ⟨hkc, c, T, fr, ?_, hfr, hr⟩
    rw [heap_putObj]
    split
    · rename_i e; subst e; rw [hc] at hk; cases hk; exact absurd rfl (hno _ _ _)
    · exact hc
  · rw [heap_putObj]
    split
    · rename_i e; subst e; rcases hm with h1 | h1
      · omega
      · exact absurd h1 hn
    · exact h.kept j hj hn


/-- a map's entries turned -/
theorem HRep.mset {B : Base} {η : Env} {hp : Hp} {w : World} {id : Nat} {r r' : LRec} (h : HRep B η hp w) (hl : lget hp id = some r) (hmp : r.mp = true) (h0 : r'.mp = true) :
    HRep B η (lset hp id r') (w.putObj (η.adr id) (.map (entsOf (dens η r'.tm) 0).toArray (entsOf (dens η r'.tm) 0).length)) := by
  have hrl := h.loops id r hl
  rw [LRec.rep, if_pos hmp] at hrl
  have hw := hrl.2
  have hlt := (Array.getElem?_eq_some_iff.1 hw).1
  refine h.putObj hw (fun _ _ _ e => by cases e) (h.lmine id r hl).1 (fun i b hg => ?_) (fun i s hg => ?_)
  · rw [hget_lset] at hg
    split at hg
    · cases hg
    · exact hg
  · rw [lget_lset] at hg
    split at hg
    · rename_i e; subst e
      simp only [Option.some.injEq] at hg; subst hg
      rw [LRec.rep, if_pos h0]
      exact ⟨⟨hrl.1, by rw [heap_putObj, if_pos rfl, if_pos hlt]⟩, r, hl⟩
    · rename_i e
      refine ⟨?_, s, hg⟩
      have hs := h.loops i s hg
      unfold LRec.rep at hs ⊢
      split at hs
      · rename_i hm; rw [if_pos hm]
        exact ⟨hs.1, by rw [heap_putObj, if_neg (h.lapart id i r s hl hg e).1]; exact hs.2⟩
      rename_i hm; rw [if_neg hm]
      obtain ⟨⟨fn', h5⟩, h6⟩ := hs
      refine ⟨⟨fn', ?_⟩, ?_⟩
      · rw [heap_putObj, if_neg (h.lapart id i r s hl hg e).1]; exact h5
      · rw [heap_putObj, if_neg]
        · exact h6
        · intro e; rw [← e, hw] at h6; cases h6

/-- a new map -/
theorem HRep.newMap {B : Base} {η : Env} {hp : Hp} {w : World} {k : Nat} {p : Nat → Bool} {r : LRec} (h : HRep B η hp w) (hpk : p k = true) (hf : Hp.fresh p hp = true) (hmp : r.mp = true) (htm : r.tm = []) :
    HRep B (η.set k w.heap.size w.heap.size) (lset hp k r) (w.alloc (.map #[] 0)) := by
  have hl := η.like_set k w.heap.size w.heap.size hpk
  have hself : (η.set k w.heap.size w.heap.size).adr k = w.heap.size ∧ (η.set k w.heap.size w.heap.size).cap k = w.heap.size := by simp [Env.set]
  have hoth : ∀ i, i ≠ k → (η.set k w.heap.size w.heap.size).adr i = η.adr i ∧ (η.set k w.heap.size w.heap.size).cap i = η.cap i := fun i hi => by simp [Env.set, hi]
  have hheap : (w.alloc (.map #[] 0)).heap = w.heap.push (.map #[] 0) := rfl
  have hold : ∀ j, j < w.heap.size → (w.alloc (.map #[] 0)).heap[j]? = w.heap[j]? := fun j hj => by
    rw [hheap, Array.getElem?_push, if_neg (by omega)]
  have kb : ∀ i b, hget (lset hp k r) i = some b → hget hp i = some b ∧ i ≠ k := fun i b hg => by
    rw [hget_lset] at hg
    split at hg
    · cases hg
    · rename_i e; exact ⟨hg, fun e' => e e'.symm⟩
  have kl : ∀ i s, lget (lset hp k r) i = some s → (i = k ∧ s = r) ∨ (lget hp i = some s ∧ i ≠ k) := fun i s hg => by
    rw [lget_lset] at hg
    split at hg
    · rename_i e; simp only [Option.some.injEq] at hg; exact .inl ⟨e.symm, hg.symm⟩
    · rename_i e; exact .inr ⟨hg, fun e' => e e'.symm⟩
  have lt1 : ∀ i s, lget hp i = some s → η.adr i < w.heap.size ∧ η.cap i < w.heap.size := fun i s hg => by
    have hs := h.loops i s hg
    unfold LRec.rep at hs
    split at hs
    · have := (Array.getElem?_eq_some_iff.1 hs.2).1; exact ⟨this, by rw [hs.1]; exact this⟩
    obtain ⟨⟨fn', h5⟩, h6⟩ := hs
    exact ⟨(Array.getElem?_eq_some_iff.1 h5).1, (Array.getElem?_eq_some_iff.1 h6).1⟩
  refine ⟨fun i b hg => ?_, fun i j b c h1 h2 hij => ?_, fun i b hg hrw => ?_, fun i s hg => ?_, fun i s hg => ?_, fun i j s t h1 h2 hij => ?_, ?_, fun j hj hn => ?_, h.os, h.tape, h.output⟩
  · obtain ⟨hg, hi⟩ := kb i b hg
    obtain ⟨hkc, c, T, fr, hc, hfr, hr⟩ := h.blk i b hg
    rw [Blk.rep, (hoth i hi).1, (hoth i hi).2]
    exact ⟨hkc, c, T, fr, (hold _ (Array.getElem?_eq_some_iff.1 hc).1).trans hc, hfr, SO.rep_like hl (Hp.fresh_get hf hg).2 hr⟩
  · obtain ⟨h1, hi⟩ := kb i b h1
    obtain ⟨h2, hj⟩ := kb j c h2
    rw [(hoth i hi).1, (hoth j hj).1]; exact h.apart i j b c h1 h2 hij
  · obtain ⟨hg, hi⟩ := kb i b hg
    rw [(hoth i hi).1]; exact h.mine i b hg hrw
  · rcases kl i s hg with ⟨rfl, rfl⟩ | ⟨hg, hi⟩
    · rw [LRec.rep, if_pos hmp, hself.1, hself.2, htm]
      refine ⟨rfl, ?_⟩
      rw [hheap, Array.getElem?_push, if_pos rfl]; rfl
    · refine LRec.rep_same (LRec.rep_like hl (Hp.fresh_lget hf hg).1 (Hp.fresh_lget hf hg).2 (h.loops i s hg)) fun k' o hk' _ => ?_
      rw [hold k' (Array.getElem?_eq_some_iff.1 hk').1]; exact hk'
  · rcases kl i s hg with ⟨rfl, rfl⟩ | ⟨hg, hi⟩
    · rw [hself.1, hself.2]; have := h.size; exact ⟨.inl (by omega), .inl (by omega)⟩
    · rw [(hoth i hi).1, (hoth i hi).2]; exact h.lmine i s hg
  · rcases kl i s h1 with ⟨rfl, rfl⟩ | ⟨h3, hi⟩ <;> rcases kl j t h2 with ⟨rfl, rfl⟩ | ⟨h4, hj⟩
    · exact absurd rfl hij
    · rw [hself.1, hself.2, (hoth j hj).1, (hoth j hj).2]; have := lt1 j t h4; exact ⟨by omega, by omega⟩
    · rw [hself.1, hself.2, (hoth i hi).1, (hoth i hi).2]; have := lt1 i s h3; exact ⟨by omega, by omega⟩
    · rw [(hoth i hi).1, (hoth i hi).2, (hoth j hj).1, (hoth j hj).2]; exact h.lapart i j s t h3 h4 hij
  · rw [hheap]; simp; have := h.size; omega
  · rw [hold j (by have := h.size; omega)]; exact h.kept j hj hn

/-- a record laid where it lies -/
theorem HRep.sub' {B : Base} {η : Env} {hp : Hp} {w : World} {id : Nat} {r : LRec} (h : HRep B η hp w) (hl : lget hp id = some r) : HRep B η (lset hp id r) w := by
  have kb : ∀ i b, hget (lset hp id r) i = some b → hget hp i = some b := fun i b hg => by
    rw [hget_lset] at hg
    split at hg
    · cases hg
    · exact hg
  have kl : ∀ i s, lget (lset hp id r) i = some s → lget hp i = some s := fun i s hg => by
    rw [lget_lset] at hg
    split at hg
    · rename_i e; subst e; rw [hl]; exact hg
    · exact hg
  exact ⟨fun i b hg => h.blk i b (kb i b hg), fun i j b c h1 h2 => h.apart i j b c (kb i b h1) (kb j c h2), fun i b hg => h.mine i b (kb i b hg), fun i r hg => h.loops i r (kl i r hg), fun i r hg => h.lmine i r (kl i r hg),
    fun i j r s h1 h2 => h.lapart i j r s (kl i r h1) (kl j s h2), h.size, h.kept, h.os, h.tape, h.output⟩

theorem run_getObj_map {r : Nat} {es : Array MapEntry} {c : Nat} (h : w.heap[r]? = some (.map es c)) : (getObj r).run P w = .ok (.map es c) w := by simp [getObj, Sem.run, h]
theorem run_setObj_map {r : Nat} {es : Array MapEntry} {c : Nat} (o : Obj) (h : w.heap[r]? = some (.map es c)) : (setObj r o).run P w = .ok () (w.putObj r o) := by simp [setObj, Sem.run, h, World.putObj]

theorem checkKey_int {e : Bool} {n : Nat} {t : TypeId} {k k' : IntKind} {x : Int} (h : P.underlying t = some (.int k')) : (Instr.checkKey e (n + 1) t (.int k x)).run P w = .ok () w := by
  simp [Instr.checkKey, Sem.run_bind, run_underlying h]
theorem findKey_now {t : TypeId} {d : TypeDesc} {k : Value} {es : List MapEntry} {r : Option (Nat × Value)} (h : P.underlying t = some d) (hn : Instr.findNow d k es 0 = some r) : (Instr.findKey t k es).run P w = .ok r w := by
  simp [Instr.findKey, Sem.run_bind, run_underlying h, hn]

theorem mapS_sound {B : Base} {hp : Hp} {ρ : Operand → SV} {o : Oper} {key id : Nat} {v : SV} {r : LRec} (h : mapS P ρ (lget hp) key o.op = some (v, id, r))
    (hR : HRep B η hp w) {p : Nat → Bool} (hpk : p key = true) (hf : Hp.fresh p hp = true) (hm : ∀ x, (ρ x).men p = false) :
    ∃ n w' η', (execOp (fun x => (ρ x).den η) o).run P w = .ok n w' ∧ yields (v.den η') n ∧ HRep B η' (lset hp id r) w' ∧ η.like η' p := by
  obtain ⟨dst, op, ty, pos, after, guard⟩ := o
  simp only at h
  unfold mapS at h
  split at h
  · rename_i t
    simp only [Option.some.injEq, Prod.mk.injEq] at h; obtain ⟨rfl, rfl, rfl⟩ := h
    refine ⟨_, w.alloc (.map #[] 0), η.set key w.heap.size w.heap.size, ?_, .inl rfl, hR.newMap hpk hf rfl rfl, η.like_set key _ _ hpk⟩
    unfold execOp
    dsimp only
    rw [Sem.run_bind]
    have : (Instr.makeMap t (Option.map (fun x => (ρ x).den η) none)).run P w = .ok (.map (some w.heap.size)) (w.alloc (.map #[] 0)) := rfl
    rw [this]
    simp [SV.den, Env.set]
  · rename_i t m k x
    split at h
    · rename_i kt et id' kk n hu hρm hρk
      split at h
      · rename_i ik r0 hk hl
        split at h
        · rename_i hmp
          split at h
          · rename_i hfind
            simp only [Option.some.injEq, Prod.mk.injEq] at h; obtain ⟨rfl, rfl, rfl⟩ := h
            have hrl := hR.loops _ r0 hl
            rw [LRec.rep, if_pos hmp] at hrl
            obtain ⟨hf1, hf2⟩ := findS_none (η := η) (d := ik) (v := (ρ x).den η) hfind
            refine ⟨.skip, _, η, ?_, .inr ⟨rfl, rfl⟩, hR.mset (r' := { r0 with tm := r0.tm ++ [.lit kk n, ρ x] }) hl hmp hmp, η.like_refl p⟩
            unfold execOp
            dsimp only
            rw [Sem.run_bind]
            have hden : dens η (r0.tm ++ [.lit kk n, ρ x]) = dens η r0.tm ++ [.int kk n, (ρ x).den η] := by rw [dens_append]; rfl
            have : (Instr.mapUpdate t ((ρ m).den η) ((ρ k).den η) ((ρ x).den η)).run P w = .ok () (w.putObj (η.adr id') (.map (entsOf (dens η (r0.tm ++ [.lit kk n, ρ x])) 0).toArray (entsOf (dens η (r0.tm ++ [.lit kk n, ρ x])) 0).length)) := by
              rw [hρm, hρk]
              simp only [SV.den]
              unfold Instr.mapUpdate
              simp only [Sem.run_bind, run_underlying hu, Result.andThen_ok, run_getObj_map hrl.2, checkKey_int hk, findKey_now hk hf1]
              rw [run_setObj_map _ hrl.2, hden, hf2]
              congr 2
              simp
            rw [this]; rfl
          · cases h
        · cases h
      · cases h
    · cases h
  · rename_i t m k
    split at h
    · rename_i kt et id' kk n hu hρm hρk
      split at h
      · rename_i ik r0 hk hl
        split at h
        · rename_i hmp
          split at h
          · rename_i j u hfind
            simp only [Option.some.injEq, Prod.mk.injEq] at h; obtain ⟨rfl, rfl, rfl⟩ := h
            have hrl := hR.loops _ r0 hl
            rw [LRec.rep, if_pos hmp] at hrl
            obtain ⟨hf1, hf2⟩ := findS_some (η := η) (d := ik) hfind
            have hsame : HRep B η (lset hp id' r0) w := hR.sub' hl
            refine ⟨_, w, η, ?_, .inl rfl, hsame, η.like_refl p⟩
            unfold execOp
            dsimp only
            rw [Sem.run_bind]
            have : (Instr.lookup t ((ρ m).den η) ((ρ k).den η) false).run P w = .ok (u.den η) w := by
              rw [hρm, hρk]
              simp only [SV.den]
              unfold Instr.lookup
              simp only [Sem.run_bind, run_underlying hu, Result.andThen_ok, run_getObj_map hrl.2, Sem.run_pure, checkKey_int hk, findKey_now hk hf1]
              rfl
            rw [this]; rfl
          · cases h
        · cases h
      · cases h
    · cases h
  · cases h
end
end Go.Sx
