import Derived.Test.YtmeebemkoakkmaaGreatDoorSxE
set_option linter.all false
/-
  Memory: new blocks, reads, writes.
-/
noncomputable section
namespace Go.Sx
open Go

def Ent.men (p : Nat → Bool) : Ent → Bool
  | .dead => false
  | .blk b => b.so.men p
  | .loop r => mens p r.tm
def Hp.fresh (p : Nat → Bool) : Hp → Bool
  | [] => true
  | (i, b) :: r => !p i && !b.men p && Hp.fresh p r
def dmens (p : Nat → Bool) : List Dfr → Bool
  | [] => false
  | d :: r => d.men p || dmens p r
def St.fresh (p : Nat → Bool) (σ : St) : Bool := !mens p σ.tm && Hp.fresh p σ.hp && !dmens p σ.df
theorem dmens_like {η η' : Env} {p : Nat → Bool} (hl : η.like η' p) : ∀ l : List Dfr, dmens p l = false → l.map (Dfr.den η') = l.map (Dfr.den η)
  | [], _ => rfl
  | d :: r, h => by
    simp only [dmens, Bool.or_eq_false_iff] at h
    rw [List.map_cons, List.map_cons, Dfr.den_like hl d h.1, dmens_like hl r h.2]
theorem Hp.fresh_eset {p : Nat → Bool} {e : Ent} {k : Nat} (hk : p k = false) (he : e.men p = false) : ∀ {h : Hp}, Hp.fresh p h = true → Hp.fresh p (eset h k e) = true
  | [], _ => by simp [eset, Hp.fresh, hk, he]
  | (i, c) :: r, h => by
    simp only [Hp.fresh, Bool.and_eq_true, Bool.not_eq_true'] at h
    simp only [eset]
    split
    · rename_i hi; subst hi; simp [Hp.fresh, h, he]
    · simp only [Hp.fresh, Bool.and_eq_true, Bool.not_eq_true']
      exact ⟨h.1, Hp.fresh_eset hk he h.2⟩
theorem Hp.fresh_lget {p : Nat → Bool} : ∀ {h : Hp} {i : Nat} {r : LRec}, Hp.fresh p h = true → lget h i = some r → p i = false ∧ mens p r.tm = false
  | [], _, _, _, h => by simp [lget] at h
  | (j, c) :: r, i, b, hf, hg => by
    simp only [Hp.fresh, Bool.and_eq_true, Bool.not_eq_true'] at hf
    simp only [lget] at hg
    split at hg
    · rename_i hj; subst hj
      cases c <;> simp only [Ent.toL, Option.some.injEq, reduceCtorEq] at hg
      subst hg
      exact ⟨hf.1.1, hf.1.2⟩
    · exact Hp.fresh_lget hf.2 hg
theorem Hp.fresh_get {p : Nat → Bool} : ∀ {h : Hp} {i : Nat} {b : Blk}, Hp.fresh p h = true → hget h i = some b → p i = false ∧ b.so.men p = false
  | [], _, _, _, h => by simp [hget] at h
  | (j, c) :: r, i, b, hf, hg => by
    simp only [Hp.fresh, Bool.and_eq_true, Bool.not_eq_true'] at hf
    simp only [hget] at hg
    split at hg
    · rename_i hj; subst hj
      cases c <;> simp only [Ent.toO, Option.some.injEq, reduceCtorEq] at hg
      subst hg
      exact ⟨hf.1.1, hf.1.2⟩
    · exact Hp.fresh_get hf.2 hg

theorem SO.rep_like {η η' : Env} {p : Nat → Bool} (hl : η.like η' p) {so : SO} (h : so.men p = false) {cp : Nat} {l : List Value} (hr : so.rep η cp l) : so.rep η' cp l := by
  cases so with
  | cells cs => simp only [SO.rep] at hr ⊢; rw [dens_like hl cs h]; exact hr
  | ints k xs => exact hr
  | strs xs => exact hr
  | recs sz cs => simp only [SO.rep] at hr ⊢; rw [dens_like hl cs h]; exact hr

theorem HRep.alike {B : Base} {η : Env} {hp : Hp} {w w' : World} (h : HRep B η hp w) (hh : w'.heap = w.heap) (ho : w'.os = w.os) (ht : w'.tape = w.tape) (hu : w'.output = w.output) : HRep B η hp w' :=
  ⟨fun i b hg => by have := h.blk i b hg; unfold Blk.rep at *; rwa [hh], h.apart, h.mine, fun i r hg => by have := h.loops i r hg; unfold LRec.rep at *; rwa [hh], h.lmine, h.lapart, by rw [hh]; exact h.size, fun j hj hn => by rw [hh]; exact h.kept j hj hn, ho.trans h.os, ht.trans h.tape, hu.trans h.output⟩

/-- a record stays under whatever leaves its two blocks -/
theorem LRec.rep_same {r : LRec} {η : Env} {i : Nat} {w w' : World} (h : r.rep η i w) (hs : ∀ (k : Nat) (o : Obj), w.heap[k]? = some o → (∀ c T fr, o ≠ .cells c T fr) → w'.heap[k]? = some o) : r.rep η i w' := by
  unfold LRec.rep at *
  split at h
  · rename_i hm; rw [if_pos hm]
    exact ⟨h.1, hs _ _ h.2 (fun _ _ _ e => by cases e)⟩
  rename_i hm; rw [if_neg hm]
  obtain ⟨⟨fn, h1⟩, h2⟩ := h
  exact ⟨⟨fn, hs _ _ h1 (fun _ _ _ e => by cases e)⟩, hs _ _ h2 (fun _ _ _ e => by cases e)⟩
theorem LRec.rep_like {η η' : Env} {p : Nat → Bool} (hl : η.like η' p) {r : LRec} {i : Nat} {w : World} (hp : p i = false) (hm : mens p r.tm = false) (h : r.rep η i w) : r.rep η' i w := by
  unfold LRec.rep at *
  rw [(hl i hp).1, (hl i hp).2.1, dens_like hl r.tm hm]; exact h

theorem HRep.lt {B : Base} {η : Env} {hp : Hp} {w : World} (h : HRep B η hp w) {i : Nat} {b : Blk} (hg : hget hp i = some b) : η.adr i < w.heap.size := by
  obtain ⟨_, c, T, fr, hc, _⟩ := h.blk i b hg
  exact (Array.getElem?_eq_some_iff.1 hc).1

/-- a new block -/
theorem HRep.new {B : Base} {η : Env} {hp : Hp} {w w' : World} {k : Nat} {p : Nat → Bool} {c : Array Value} {T : TypeId} {fr : Nat × Nat} {b : Blk} {cp : Nat}
    (h : HRep B η hp w) (hpk : p k = true) (hf : Hp.fresh p hp = true) (hm : b.so.men p = false)
    (hh : w'.heap = w.heap.push (.cells c T fr)) (ho : w'.os = w.os) (ht : w'.tape = w.tape) (hu : w'.output = w.output)
    (hfr : ∀ o, o < c.size → ¬ (fr.1 ≤ o ∧ o < fr.2)) (hk : ∀ m, b.kc = some m → cp = m) (hr : b.so.rep η cp c.toList) :
    HRep B (η.set k w.heap.size cp) (hset hp k (some b)) w' := by
  have hl := η.like_set k w.heap.size cp hpk
  have hself : (η.set k w.heap.size cp).adr k = w.heap.size ∧ (η.set k w.heap.size cp).cap k = cp := by simp [Env.set]
  have hne : ∀ i c', hget hp i = some c' → i ≠ k := fun i c' hg e => by have := (Hp.fresh_get hf hg).1; rw [e, hpk] at this; cases this
  have hoth : ∀ i, i ≠ k → (η.set k w.heap.size cp).adr i = η.adr i ∧ (η.set k w.heap.size cp).cap i = η.cap i := fun i hi => by simp [Env.set, hi]
  refine ⟨fun i b' hg => ?_, fun i j b1 b2 h1 h2 hij => ?_, fun i b' hg hrw => ?_, fun i r hg => ?_, fun i r hg => ?_, fun i j r s h1 h2 hij => ?_, ?_, fun j hj hn => ?_, ho.trans h.os, ht.trans h.tape, hu.trans h.output⟩
  rotate_left 3
  · obtain ⟨hg, hi⟩ := lget_of_hset hg
    obtain ⟨hp1, hp2⟩ := Hp.fresh_lget hf hg
    refine LRec.rep_same (LRec.rep_like hl hp1 hp2 (h.loops i r hg)) fun k' o hk' _ => ?_
    rw [hh, Array.getElem?_push, if_neg (by have := (Array.getElem?_eq_some_iff.1 hk').1; omega)]; exact hk'
  · obtain ⟨hg, hi⟩ := lget_of_hset hg
    rw [(hoth i (fun e => hi e.symm)).1, (hoth i (fun e => hi e.symm)).2]; exact h.lmine i r hg
  · obtain ⟨h1, hi⟩ := lget_of_hset h1
    obtain ⟨h2, hj⟩ := lget_of_hset h2
    rw [(hoth i (fun e => hi e.symm)).1, (hoth i (fun e => hi e.symm)).2, (hoth j (fun e => hj e.symm)).1, (hoth j (fun e => hj e.symm)).2]; exact h.lapart i j r s h1 h2 hij
  rotate_left 2
  · rw [hget_hset] at hg
    split at hg
    · rename_i hki; subst hki
      simp only [Option.some.injEq] at hg; subst hg
      refine ⟨fun m hm' => by rw [hself.2]; exact hk m hm', c, T, fr, ?_, fun _ => hfr, ?_⟩
      · rw [hself.1, hh]; simp
      · rw [hself.2]; exact SO.rep_like hl hm hr
    · rename_i hki
      obtain ⟨hkc, c', T', fr', hc', hfr', hr'⟩ := h.blk i b' hg
      obtain ⟨ha, hb⟩ := hoth i (fun e => hki e.symm)
      refine ⟨fun m hm' => by rw [hb]; exact hkc m hm', c', T', fr', ?_, hfr', ?_⟩
      · rw [ha, hh, Array.getElem?_push]
        have := (Array.getElem?_eq_some_iff.1 hc').1
        rw [if_neg (by omega)]; exact hc'
      · rw [hb]; exact SO.rep_like hl (Hp.fresh_get hf hg).2 hr'
  · rw [hget_hset] at h1 h2
    split at h1 <;> split at h2
    · rename_i e1 e2; exact absurd (e1.symm.trans e2) hij
    · rename_i e1 e2; subst e1
      rw [hself.1, (hoth j (fun e => e2 e.symm)).1]
      have := h.lt h2; omega
    · rename_i e1 e2; subst e2
      rw [hself.1, (hoth i (fun e => e1 e.symm)).1]
      have := h.lt h1; omega
    · rename_i e1 e2
      rw [(hoth i (fun e => e1 e.symm)).1, (hoth j (fun e => e2 e.symm)).1]
      exact h.apart i j b1 b2 h1 h2 hij
  · rw [hget_hset] at hg
    split at hg
    · rename_i hki; subst hki; rw [hself.1]; exact .inl h.size
    · rename_i hki; rw [(hoth i (fun e => hki e.symm)).1]; exact h.mine i b' hg hrw
  · rw [hh]; simp; have := h.size; omega
  · rw [hh, Array.getElem?_push]
    have := h.size
    rw [if_neg (by omega)]; exact h.kept j hj hn

/-- a block written -/
theorem HRep.write {B : Base} {η : Env} {hp : Hp} {w w' : World} {i : Nat} {b : Blk} {c' : Array Value} {T : TypeId} {fr : Nat × Nat} {c : Array Value} {so : SO}
    (h : HRep B η hp w) (hg : hget hp i = some b) (hrw : b.rw = true) (hc : w.heap[η.adr i]? = some (.cells c T fr))
    (hh : w'.heap = w.heap.setIfInBounds (η.adr i) (.cells c' T fr)) (ho : w'.os = w.os) (ht : w'.tape = w.tape) (hu : w'.output = w.output)
    (hsz : c'.size = c.size) (hr : so.rep η (η.cap i) c'.toList) : HRep B η (hset hp i (some { b with so := so })) w' := by
  have hlt := (Array.getElem?_eq_some_iff.1 hc).1
  refine ⟨fun j b' hg' => ?_, fun j k b1 b2 h1 h2 hjk => ?_, fun j b' hg' hrw' => ?_, fun j r hg' => LRec.rep_same (h.loops j r (lget_of_hset hg').1) fun k o hk hno => by
      rw [hh, Array.getElem?_setIfInBounds]
      by_cases e : η.adr i = k
      · subst e; rw [hc] at hk; cases hk; exact absurd rfl (hno _ _ _)
      · rw [if_neg e]; exact hk, fun j r hg' => h.lmine j r (lget_of_hset hg').1, fun j k r s h1 h2 hjk => h.lapart j k r s (lget_of_hset h1).1 (lget_of_hset h2).1 hjk, by rw [hh]; simpa using h.size, fun j hj hn => ?_, ho.trans h.os, ht.trans h.tape, hu.trans h.output⟩
  · rw [hget_hset] at hg'
    split at hg'
    · rename_i e; subst e
      simp only [Option.some.injEq] at hg'; subst hg'
      obtain ⟨hkc, c1, T1, fr1, hc1, hfr1, _⟩ := h.blk i b hg
      rw [hc] at hc1; simp only [Option.some.injEq, Obj.cells.injEq] at hc1; obtain ⟨rfl, rfl, rfl⟩ := hc1
      refine ⟨hkc, c', T, fr, by rw [hh, Array.getElem?_setIfInBounds]; simp [hlt], fun hw o ho' => hfr1 hw o (by omega), hr⟩
    · rename_i e
      obtain ⟨hkc, c1, T1, fr1, hc1, hfr1, hr1⟩ := h.blk j b' hg'
      refine ⟨hkc, c1, T1, fr1, ?_, hfr1, hr1⟩
      rw [hh, Array.getElem?_setIfInBounds, if_neg (h.apart i j b b' hg hg' e)]; exact hc1
  · rw [hget_hset] at h1 h2
    split at h1 <;> split at h2
    · rename_i e1 e2; exact absurd (e1.symm.trans e2) hjk
    · rename_i e1 e2; subst e1; exact h.apart i k b b2 hg h2 hjk
    · rename_i e1 e2; subst e2; exact h.apart j i b1 b h1 hg hjk
    · exact h.apart j k b1 b2 h1 h2 hjk
  · rw [hget_hset] at hg'
    split at hg'
    · rename_i e; subst e; exact h.mine i b hg hrw
    · exact h.mine j b' hg' hrw'
  · rw [hh, Array.getElem?_setIfInBounds]
    have hm := h.mine i b hg hrw
    have hne : ¬ η.adr i = j := fun e => hm.elim (fun hm => by omega) (fun hm => hn (e ▸ hm))
    rw [if_neg hne]
    exact h.kept j hj hn

/-! reading and writing cells -/
section
variable {P : Program} {w : World} {c : Array Value} {T : TypeId} {fr : Nat × Nat} {a : Nat}

theorem cell_of_block (hc : w.heap[a]? = some (.cells c T fr)) (o : Nat) : w.cell? ⟨a, o, none⟩ = c[o]? := by
  simp [World.cell?, hc]
theorem run_loadCellsFrom (hc : w.heap[a]? = some (.cells c T fr)) (off : Nat) : ∀ (n i : Nat) (acc : Array Value), off + i + n ≤ c.size →
    (loadCellsFrom ⟨a, off, none⟩ i n acc).run P w = .ok (acc ++ ((c.toList.drop (off + i)).take n).toArray) w
  | 0, i, acc, _ => by simp [loadCellsFrom]
  | n + 1, i, acc, h => by
    have hlt : off + i < c.size := by omega
    unfold loadCellsFrom
    rw [Sem.run_bind, addr_add, run_load, cell_of_block hc, Array.getElem?_eq_getElem hlt]
    simp only [Result.andThen_ok]
    rw [run_loadCellsFrom hc off n (i + 1) _ (by omega)]
    congr 1
    rw [show off + (i + 1) = off + i + 1 from by omega]
    have : (c.toList.drop (off + i)).take (n + 1) = c[off + i] :: (c.toList.drop (off + i + 1)).take n := by
      rw [List.drop_eq_getElem_cons (by simpa using hlt)]; simp
    rw [this]
    apply Array.ext'
    simp
theorem run_loadCells (hc : w.heap[a]? = some (.cells c T fr)) {off n : Nat} (h : off + n ≤ c.size) :
    (loadCells ⟨a, off, none⟩ n).run P w = .ok ((c.toList.drop off).take n).toArray w := by
  unfold loadCells
  rw [run_loadCellsFrom hc off n 0 #[] (by omega)]
  simp

def spliceV (l : List Value) (off : Nat) (vs : List Value) : List Value := l.take off ++ vs ++ l.drop (off + vs.length)
theorem spliceV_length {l : List Value} {off : Nat} {vs : List Value} (h : off + vs.length ≤ l.length) : (spliceV l off vs).length = l.length := by
  simp [spliceV]; omega
theorem spliceV_cons {l : List Value} {off : Nat} {v : Value} {vs : List Value} (h : off + vs.length + 1 ≤ l.length) : spliceV (l.set off v) (off + 1) vs = spliceV l off (v :: vs) := by
  unfold spliceV
  rw [List.take_set, List.drop_set]
  rw [if_pos (by omega), List.take_succ_eq_append_getElem (by omega), List.set_append_right _ _ (by simp; omega)]
  have : off - (l.take off).length = 0 := by simp; omega
  rw [this]
  simp [List.append_assoc]
  congr 1; omega

theorem run_storeCells (hf : ∀ o, o < c.size → ¬ (fr.1 ≤ o ∧ o < fr.2)) : ∀ (vs : List Value) (off i : Nat) (c0 : Array Value) (w0 : World), c0.size = c.size → w0.heap[a]? = some (.cells c0 T fr) → (∀ v ∈ vs, v.oneCell' = true) → off + i + vs.length ≤ c.size →
    (storeCells ⟨a, off, none⟩ vs i).run P w0 = .ok () { w0 with heap := w0.heap.setIfInBounds a (.cells (spliceV c0.toList (off + i) vs).toArray T fr) }
  | [], off, i, c0, w0, hs, hc, _, _ => by
    have hlt := (Array.getElem?_eq_some_iff.1 hc)
    obtain ⟨hlt, he⟩ := hlt
    have : w0.heap.setIfInBounds a (.cells (spliceV c0.toList (off + i) []).toArray T fr) = w0.heap := by
      apply Array.ext
      · simp
      · intro j h1 h2
        rw [Array.getElem_setIfInBounds]
        split
        · rename_i e; subst e; rw [he]; simp [spliceV]
        · rfl
    rw [this]; rfl
  | v :: vs, off, i, c0, w0, hs, hc, h1, hl => by
    simp only [List.length_cons] at hl
    have hlt : off + i < c0.size := by omega
    have hlt2 := (Array.getElem?_eq_some_iff.1 hc).1
    unfold storeCells
    rw [Sem.run_bind, addr_add, run_store P w0 _ v _ (h1 v (List.mem_cons_self ..)), cell_of_block hc, Array.getElem?_eq_getElem hlt]
    have hnf : w0.frozen? ⟨a, off + i, none⟩ = false := by
      have := hf (off + i) (by omega)
      simp only [World.frozen?, hc]
      simpa using this
    simp only [hnf, Bool.false_eq_true, if_false, Result.andThen_ok]
    have hset : w0.setCell ⟨a, off + i, none⟩ v = { w0 with heap := w0.heap.setIfInBounds a (.cells (c0.setIfInBounds (off + i) v) T fr) } := by
      unfold World.setCell
      congr 1
      apply Array.ext
      · simp
      · intro j h1 h2
        rw [Array.getElem_modify, Array.getElem_setIfInBounds]
        split
        · rename_i e; subst e
          have := (Array.getElem?_eq_some_iff.1 hc).2
          rw [this]; simp
        · rfl
    rw [hset]
    rw [run_storeCells hf vs off (i + 1) (c0.setIfInBounds (off + i) v) _ (by simp [hs]) (by simp [hlt2]) (fun u hu => h1 u (List.mem_cons_of_mem _ hu)) (by omega)]
    congr 2
    rw [Array.setIfInBounds_setIfInBounds]
    congr 2
    rw [Array.toList_setIfInBounds, show off + (i + 1) = off + i + 1 from by omega, spliceV_cons (by simp; omega)]
end
end Go.Sx
