import Derived.Test.YtmeebemkoakkmaaGreatDoorSxF
import Derived.Laws.BytesString
set_option linter.all false
/-
  Operations on memory: what they come to.
-/
noncomputable section
namespace Go.Sx
open Go

def SV.one : SV → Bool
  | .agg _ | .tup _ | .val _ | .jk _ => false
  | _ => true
theorem SV.one_den {η : Env} {v : SV} (h : v.one = true) : (v.den η).oneCell' = true := by
  cases v <;> first | rfl | cases h

def SO.get (so : SO) (off n : Nat) : Option (List SV × List Ob) :=
  match so with
  | .cells cs => if off + n ≤ cs.length then some ((cs.drop off).take n, []) else none
  | .ints k xs => if n = 1 then some ([.int k (xs.getD off 0)], [off < xs.length]) else none
  | .strs xs => if n = 1 then some ([.str (xs.getD off [])], [off < xs.length]) else none
  | .recs _ cs => if off + n ≤ cs.length then some ((cs.drop off).take n, []) else none

theorem take_drop_pre {α : Type} {l a sp : List α} (h : l = a ++ sp) {off n : Nat} (hn : off + n ≤ a.length) : (l.drop off).take n = (a.drop off).take n := by
  subst h
  rw [List.drop_append_of_le_length (by omega), List.take_append_of_le_length (by simp; omega)]
theorem getD_one {α : Type} {a : List α} {off : Nat} {d : α} (h : off < a.length) : (a.drop off).take 1 = [a.getD off d] := by
  rw [List.drop_eq_getElem_cons h, List.take_succ_cons, List.take_zero]; simp [h]

theorem SO.get_sound {η : Env} {so : SO} {off n cp : Nat} {vs : List SV} {o : List Ob} {l : List Value} (h : so.get off n = some (vs, o)) (ho : ∀ p ∈ o, p) (hr : so.rep η cp l) :
    off + n ≤ l.length ∧ (l.drop off).take n = dens η vs := by
  cases so with
  | cells cs =>
    simp only [SO.get] at h
    split at h
    · rename_i hle
      simp only [Option.some.injEq, Prod.mk.injEq] at h; obtain ⟨rfl, rfl⟩ := h
      simp only [SO.rep] at hr; subst hr
      exact ⟨by rw [dens_length]; exact hle, by rw [dens_take, dens_drop]⟩
    · cases h
  | ints k xs =>
    simp only [SO.get] at h
    split at h
    · rename_i hn; subst hn
      simp only [Option.some.injEq, Prod.mk.injEq] at h; obtain ⟨rfl, rfl⟩ := h
      have hlt : off < xs.length := ho _ (List.mem_singleton.2 rfl)
      obtain ⟨_, sp, hsp⟩ := hr
      refine ⟨by rw [hsp]; simp; omega, ?_⟩
      rw [take_drop_pre hsp (by simp; omega), getD_one (d := Value.int k 0) (by simpa using hlt)]
      simp [dens, SV.den, hlt]
    · cases h
  | strs xs =>
    simp only [SO.get] at h
    split at h
    · rename_i hn; subst hn
      simp only [Option.some.injEq, Prod.mk.injEq] at h; obtain ⟨rfl, rfl⟩ := h
      have hlt : off < xs.length := ho _ (List.mem_singleton.2 rfl)
      obtain ⟨_, sp, hsp⟩ := hr
      refine ⟨by rw [hsp]; simp; omega, ?_⟩
      rw [take_drop_pre hsp (by simp; omega), getD_one (d := Value.string ⟨#[]⟩) (by simpa using hlt)]
      simp [dens, SV.den, hlt]
    · cases h
  | recs sz cs =>
    simp only [SO.get] at h
    split at h
    · rename_i hle
      simp only [Option.some.injEq, Prod.mk.injEq] at h; obtain ⟨rfl, rfl⟩ := h
      obtain ⟨_, sp, hsp⟩ := hr
      refine ⟨by rw [hsp]; simp [dens_length]; omega, ?_⟩
      rw [take_drop_pre hsp (by rw [dens_length]; omega), dens_take, dens_drop]
    · cases h

def SO.set (so : SO) (off : Nat) (vs : List SV) : Option (SO × List Ob) :=
  match so, vs with
  | .cells cs, vs => if off + vs.length ≤ cs.length && vs.all SV.one then some (.cells (splice cs off vs), []) else none
  | .ints k xs, [v] => match v.asI with
    | some (_, k', n) => if k = k' then some (.ints k (xs.set off n), [off < xs.length]) else none
    | none => none
  | .strs xs, [.str s] => some (.strs (xs.set off s), [off < xs.length])
  | .recs sz cs, vs => if off + vs.length ≤ cs.length && vs.all SV.one then some (.recs sz (splice cs off vs), []) else none
  | _, _ => none

theorem splice_den (η : Env) (cs : List SV) (off : Nat) (vs : List SV) : dens η (splice cs off vs) = spliceV (dens η cs) off (dens η vs) := by
  simp [splice, spliceV, dens_append, dens_take, dens_drop, dens_length]
theorem spliceV_pre {l a sp vs : List Value} (h : l = a ++ sp) {off : Nat} (hn : off + vs.length ≤ a.length) : spliceV l off vs = spliceV a off vs ++ sp := by
  subst h
  unfold spliceV
  rw [List.take_append_of_le_length (by omega), List.drop_append_of_le_length (by omega)]
  simp
theorem spliceV_one {a : List Value} {off : Nat} {v : Value} (h : off < a.length) : spliceV a off [v] = a.set off v := by
  unfold spliceV
  rw [List.set_eq_take_append_cons_drop, if_pos h]; simp
theorem ones_den {η : Env} {vs : List SV} (h : vs.all SV.one = true) : ∀ v ∈ dens η vs, v.oneCell' = true := by
  intro v hv
  rw [dens_eq] at hv
  obtain ⟨u, hu, rfl⟩ := List.mem_map.1 hv
  exact SV.one_den (List.all_eq_true.1 h u hu)

theorem SO.set_sound {η : Env} {so so' : SO} {off cp : Nat} {vs : List SV} {o : List Ob} {l : List Value} (h : so.set off vs = some (so', o)) (ho : ∀ p ∈ o, p) (hr : so.rep η cp l) :
    off + vs.length ≤ l.length ∧ so'.rep η cp (spliceV l off (dens η vs)) ∧ ∀ v ∈ dens η vs, v.oneCell' = true := by
  unfold SO.set at h
  split at h
  · split at h
    · rename_i hc
      simp only [Bool.and_eq_true, decide_eq_true_eq] at hc
      simp only [Option.some.injEq, Prod.mk.injEq] at h; obtain ⟨rfl, rfl⟩ := h
      simp only [SO.rep] at hr ⊢; subst hr
      exact ⟨by rw [dens_length]; exact hc.1, (splice_den ..).symm, ones_den hc.2⟩
    · cases h
  · rename_i k xs v
    split at h
    · rename_i lt k' n hv
      split at h
      · rename_i hk; subst hk
        simp only [Option.some.injEq, Prod.mk.injEq] at h; obtain ⟨rfl, rfl⟩ := h
        have hlt : off < xs.length := ho _ (List.mem_singleton.2 rfl)
        obtain ⟨hcp, sp, hsp⟩ := hr
        have hll : off < l.length := by rw [hsp]; simp; omega
        refine ⟨hll, ⟨?_, sp, ?_⟩, ?_⟩
        · rw [spliceV_length (by rw [dens_length]; exact hll)]; exact hcp
        · rw [spliceV_pre hsp (by simp [dens_length]; omega)]
          simp only [dens]
          rw [spliceV_one (by simpa using hlt), SV.asI_den hv, List.map_set]
        · intro u hu; simp only [dens, List.mem_singleton] at hu; subst hu; rw [SV.asI_den hv]; rfl
      · cases h
    · cases h
  · rename_i xs s
    simp only [Option.some.injEq, Prod.mk.injEq] at h; obtain ⟨rfl, rfl⟩ := h
    have hlt : off < xs.length := ho _ (List.mem_singleton.2 rfl)
    obtain ⟨hcp, sp, hsp⟩ := hr
    have hll : off < l.length := by rw [hsp]; simp; omega
    refine ⟨hll, ⟨?_, sp, ?_⟩, ?_⟩
    · rw [spliceV_length (by rw [dens_length]; exact hll)]; exact hcp
    · rw [spliceV_pre hsp (by simp [dens_length]; omega)]
      simp only [dens]
      rw [spliceV_one (by simpa using hlt), List.map_set]; rfl
    · intro u hu; simp only [dens, List.mem_singleton] at hu; subst hu; rfl
  · rename_i sz cs
    split at h
    · rename_i hc
      simp only [Bool.and_eq_true, decide_eq_true_eq] at hc
      simp only [Option.some.injEq, Prod.mk.injEq] at h; obtain ⟨rfl, rfl⟩ := h
      obtain ⟨hcp, sp, hsp⟩ := hr
      have hll : off + vs.length ≤ l.length := by rw [hsp]; simp [dens_length]; omega
      refine ⟨hll, ⟨?_, sp, ?_⟩, ones_den hc.2⟩
      · rw [spliceV_length (by rw [dens_length]; exact hll)]; exact hcp
      · rw [spliceV_pre hsp (by simp [dens_length]; omega), splice_den]
    · cases h
  · cases h

def loadS (P : Program) (t : TypeId) (p : SV) (g : Nat → Option Blk) : Res :=
  match p, P.underlying t, P.info? t with
  | .ptr id off, some d, some i => match g id with
    | some b =>
      if aggD d then match b.so.get off i.size with
        | some (vs, o) => .one ⟨o, .agg vs, []⟩
        | none => .fail
      else match b.so.get off 1 with
        | some ([v], o) => .one ⟨o, v, []⟩
        | _ => .fail
    | none => .fail
  | _, _, _ => .fail

theorem loadS_sound {P : Program} {η : Env} {B : Base} {hp : Hp} {w : World} {t : TypeId} {p : SV} {e : Eff} (h : (loadS P t p (hget hp)).sat e) (hR : HRep B η hp w) :
    e.sets = [] ∧ (Instr.loadAt t (p.den η)).run P w = .ok (e.val.den η) w := by
  unfold loadS at h
  split at h
  · rename_i id off d i hu hi
    split at h
    · rename_i b hb
      obtain ⟨hkc, c, T, fr, hc, _, hr⟩ := hR.blk id b hb
      split at h
      · rename_i ha
        split at h
        · rename_i vs o hg
          obtain ⟨rfl, ho⟩ := h
          refine ⟨rfl, ?_⟩
          obtain ⟨h1, h2⟩ := SO.get_sound hg ho hr
          unfold Instr.loadAt loadVar
          simp only [SV.den, Instr.sureAddr, Sem.run_bind, Sem.run_pure, Result.andThen_ok, run_isAggD hu]
          rw [if_pos ha]
          simp only [Sem.run_bind, run_szOf hi, Result.andThen_ok]
          rw [run_loadCells hc (by simpa using h1), h2]; rfl
        · exact h.elim
      · rename_i ha
        split at h
        · rename_i v o hg
          obtain ⟨rfl, ho⟩ := h
          refine ⟨rfl, ?_⟩
          obtain ⟨h1, h2⟩ := SO.get_sound hg ho hr
          have hlt : off < c.size := by simp at h1; omega
          unfold Instr.loadAt loadVar
          simp only [SV.den, Instr.sureAddr, Sem.run_bind, Sem.run_pure, Result.andThen_ok, run_isAggD hu]
          rw [if_neg ha, run_load, cell_of_block hc, Array.getElem?_eq_getElem hlt]
          rw [List.drop_eq_getElem_cons (by simpa using hlt)] at h2
          simp [dens] at h2
          simp [h2]
        · exact h.elim
    · exact h.elim
  · exact h.elim

def storeS (P : Program) (t : TypeId) (p v : SV) (g : Nat → Option Blk) : Res :=
  match p, P.info? t, v.cellsS with
  | .ptr id off, some i, some vs => match g id with
    | some b => if vs.length = i.size && b.rw then match b.so.set off vs with
        | some (so, o) => .one ⟨o, undefS, [(id, some { b with so := so })]⟩
        | none => .fail
      else .fail
    | none => .fail
  | _, _, _ => .fail

theorem storeS_sound {P : Program} {η : Env} {B : Base} {hp : Hp} {w : World} {t : TypeId} {p v : SV} {e : Eff} (h : (storeS P t p v (hget hp)).sat e) (hR : HRep B η hp w) :
    e.val = undefS ∧ ∃ w', (Instr.storeAt t (p.den η) (v.den η)).run P w = .ok () w' ∧ HRep B η (hsets hp e.sets) w' := by
  unfold storeS at h
  split at h
  · rename_i id off i vs hi hv
    split at h
    · rename_i b hb
      split at h
      · rename_i hcond
        simp only [Bool.and_eq_true, decide_eq_true_eq] at hcond
        split at h
        · rename_i so o hs
          obtain ⟨rfl, ho⟩ := h
          refine ⟨rfl, ?_⟩
          obtain ⟨hkc, c, T, fr, hc, hfr, hr⟩ := hR.blk id b hb
          obtain ⟨h1, h2, h3⟩ := SO.set_sound hs ho hr
          have hcell := SV.cellsS_den (η := η) hv
          have hsz : (v.den η).cells.size = vs.length := by rw [← Array.length_toList, hcell, dens_length]
          unfold Instr.storeAt storeVar
          simp only [SV.den, Instr.sureAddr, Sem.run_bind, Sem.run_pure, Result.andThen_ok, run_szOf hi]
          rw [if_neg (by rw [hsz, hcond.1]; simp)]
          simp only [hcell]
          have h1' : off + 0 + (dens η vs).length ≤ c.size := by rw [dens_length]; simpa using h1
          refine ⟨_, run_storeCells (hfr hcond.2) (dens η vs) off 0 c w rfl hc h3 h1', ?_⟩
          refine HRep.write (c := c) (c' := (spliceV c.toList (off + 0) (dens η vs)).toArray) hR hb hcond.2 hc rfl rfl rfl rfl ?_ ?_
          · simp only [List.size_toArray]
            rw [spliceV_length (by simpa using h1')]; simp
          · simpa using h2
        · exact h.elim
      · exact h.elim
    · exact h.elim
  · exact h.elim

/-! a place in an array at an index that is no literal -/
def allB : List SV → Option (List Bool)
  | [] => some []
  | v :: vs => match v.asB, allB vs with
    | some (_, b), some bs => some (b :: bs)
    | _, _ => none
theorem allB_den {η : Env} : ∀ {l : List SV} {ns : List Bool}, allB l = some ns → dens η l = ns.map Value.bool
  | [], ns, h => by simp [allB] at h; subst h; rfl
  | v :: vs, ns, h => by
    simp only [allB] at h
    split at h
    · rename_i l b bs h1 h2
      simp only [Option.some.injEq] at h; subst h
      rw [dens, SV.asB_den h1, allB_den h2]; rfl
    · cases h
def colL (cs : List SV) (sz : Nat) : Nat → Nat → List SV
  | _, 0 => []
  | off, n + 1 => cs.nthK undefS (fun v => v) off :: colL cs sz (off + sz) n
theorem colL_length (cs : List SV) (sz : Nat) : ∀ (n off : Nat), (colL cs sz off n).length = n
  | 0, _ => rfl
  | n + 1, off => by simp [colL, colL_length cs sz n]
theorem colL_get (cs : List SV) (sz : Nat) : ∀ (n off m : Nat), m < n → (colL cs sz off n)[m]? = some ((cs[off + m * sz]?).getD undefS)
  | n + 1, off, 0, _ => by
    simp only [colL, List.getElem?_cons_zero, List.nthK_eq, Nat.zero_mul, Nat.add_zero]
    cases cs[off]? <;> rfl
  | n + 1, off, m + 1, h => by
    simp only [colL, List.getElem?_cons_succ]
    rw [colL_get cs sz n (off + sz) m (by omega)]
    have : off + sz + m * sz = off + (m + 1) * sz := by rw [Nat.add_mul]; omega
    rw [this]
/-- what lies there -/
def colS (cs : List SV) (off sz n : Nat) (i : Int) : Option SV :=
  let l := colL cs sz off n
  match allI l with
  | some (k, ns) => some (.int k (ns.getD i.toNat 0))
  | none => match allS l with
    | some ss => some (.str (ss.getD i.toNat []))
    | none => match allB l with
      | some bs => some (.bool (bs.getD i.toNat false))
      | none => none
theorem colS_den {cs : List SV} {off sz n : Nat} {i : Int} {v : SV} (h : colS cs off sz n i = some v) (h0 : 0 ≤ i) (hn : i < n) : ∃ u, cs[off + i.toNat * sz]? = some u ∧ ∀ η, v.den η = u.den η := by
  have hm : i.toNat < n := by omega
  have hg := colL_get cs sz n off i.toNat hm
  have hl := colL_length cs sz n off
  unfold colS at h
  simp only at h
  have key : ∀ {α : Type} (ns : List α) (f : α → Value) (d : α), (∀ η, dens η (colL cs sz off n) = ns.map f) → (∀ a η, f a ≠ undefS.den η) → ∃ u, cs[off + i.toNat * sz]? = some u ∧ ∀ η, f (ns.getD i.toNat d) = u.den η := fun ns f d hd hf => by
    have hlen : ns.length = n := by have := congrArg List.length (hd ⟨fun _ => 0, fun _ => 0, fun _ => undef⟩); simp [dens_length, hl] at this; omega
    have hlt : i.toNat < ns.length := by omega
    have h2 : ∀ η, ((cs[off + i.toNat * sz]?).getD undefS).den η = f (ns.getD i.toNat d) := fun η => by
      have h1 : (dens η (colL cs sz off n))[i.toNat]? = some (((cs[off + i.toNat * sz]?).getD undefS).den η) := by rw [dens_get?, hg]; rfl
      rw [hd η, List.getElem?_map, List.getElem?_eq_getElem hlt] at h1
      simp only [Option.map_some, Option.some.injEq] at h1
      rw [← h1]; simp [List.getD_eq_getElem?_getD, hlt]
    cases hc : cs[off + i.toNat * sz]? with
    | none =>
      have := h2 ⟨fun _ => 0, fun _ => 0, fun _ => undef⟩
      rw [hc] at this
      exact absurd this.symm (hf _ _)
    | some u => rw [hc] at h2; exact ⟨u, rfl, fun η => (h2 η).symm⟩
  split at h
  · rename_i k ns hns
    simp only [Option.some.injEq] at h; subst h
    exact key ns (Value.int k ·) 0 (fun η => allI_den hns) (fun a η => by simp [undefS, SV.den, dens])
  · split at h
    · rename_i ss hss
      simp only [Option.some.injEq] at h; subst h
      exact key ss (fun s => Value.string ⟨s.toArray⟩) [] (fun η => allS_den hss) (fun a η => by simp [undefS, SV.den, dens])
    · split at h
      · rename_i bs hbs
        simp only [Option.some.injEq] at h; subst h
        exact key bs Value.bool false (fun η => allB_den hbs) (fun a η => by simp [undefS, SV.den, dens])
      · cases h
def colsS (cs : List SV) (sz n : Nat) (i : Int) : Nat → Nat → Option (List SV)
  | _, 0 => some []
  | off, m + 1 => match colS cs off sz n i, colsS cs sz n i (off + 1) m with
    | some v, some vs => some (v :: vs)
    | _, _ => none
theorem colsS_den {cs : List SV} {sz n : Nat} {i : Int} (h0 : 0 ≤ i) (hn : i < n) : ∀ {m off : Nat} {vs : List SV}, colsS cs sz n i off m = some vs → (m = 0 ∨ off + i.toNat * sz + m ≤ cs.length) ∧ ∀ η, dens η vs = dens η ((cs.drop (off + i.toNat * sz)).take m)
  | 0, off, vs, h => by simp [colsS] at h; subst h; exact ⟨.inl rfl, fun η => by simp⟩
  | m + 1, off, vs, h => by
    simp only [colsS] at h
    split at h
    · rename_i v vs' h1 h2
      simp only [Option.some.injEq] at h; subst h
      obtain ⟨u, hu, hd⟩ := colS_den h1 h0 hn
      obtain ⟨hl, hds⟩ := colsS_den h0 hn h2
      have hlt : off + i.toNat * sz < cs.length := by
        rcases Nat.lt_or_ge (off + i.toNat * sz) cs.length with h | h
        · exact h
        · rw [List.getElem?_eq_none h] at hu; cases hu
      refine ⟨.inr (by rcases hl with rfl | hl <;> omega), fun η => ?_⟩
      rw [List.drop_eq_getElem_cons hlt, List.take_succ_cons, dens, dens, hds, hd]
      rw [List.getElem?_eq_getElem hlt] at hu
      simp only [Option.some.injEq] at hu
      rw [hu, show off + 1 + i.toNat * sz = off + i.toNat * sz + 1 by omega]
    · cases h
def loadX (P : Program) (t : TypeId) (p : SV) (g : Nat → Option Blk) : Res :=
  match p with
  | .pti id off sz n i => match P.underlying t, P.info? t, g id with
    | some d, some inf, some b => match b.so with
      | .cells cs => if aggD d then match colsS cs sz n i off inf.size with
          | some vs => if inf.size = 0 then .fail else .one ⟨[0 ≤ i ∧ i < n], .agg vs, []⟩
          | none => .fail
        else match colS cs off sz n i with
          | some v => .one ⟨[0 ≤ i ∧ i < n], v, []⟩
          | none => .fail
      | _ => .fail
    | _, _, _ => .fail
  | p => loadS P t p g
theorem loadX_sound {P : Program} {η : Env} {B : Base} {hp : Hp} {w : World} {t : TypeId} {p : SV} {e : Eff} (h : (loadX P t p (hget hp)).sat e) (hR : HRep B η hp w) :
    e.sets = [] ∧ (Instr.loadAt t (p.den η)).run P w = .ok (e.val.den η) w := by
  unfold loadX at h
  split at h
  · rename_i id off sz n i
    split at h
    · rename_i d inf b hu hi hb
      split at h
      · rename_i cs hcs
        split at h
        · rename_i ha
          split at h
          · rename_i vs hvs
            split at h
            · exact h.elim
            · rename_i hz
              obtain ⟨rfl, ho⟩ := h
              have hp := ho _ (List.mem_singleton.2 rfl)
              obtain ⟨hl, hd⟩ := colsS_den hp.1 hp.2 hvs
              have hl' : off + i.toNat * sz + inf.size ≤ cs.length := by rcases hl with h | h <;> omega
              refine ⟨rfl, ?_⟩
              have := loadS_sound (P := P) (t := t) (p := .ptr id (off + i.toNat * sz)) (e := ⟨[], .agg ((cs.drop (off + i.toNat * sz)).take inf.size), []⟩) (by
                unfold loadS; simp only [hu, hi, hb, ha, hcs, SO.get, if_true, hl']; exact ⟨rfl, fun p hp => by cases hp⟩) hR
              have h2 := this.2
              simp only [SV.den] at h2 ⊢
              rw [hd]; exact h2
          · exact h.elim
        · rename_i ha
          split at h
          · rename_i v hv
            obtain ⟨rfl, ho⟩ := h
            have hp := ho _ (List.mem_singleton.2 rfl)
            obtain ⟨u, hu', hd⟩ := colS_den hv hp.1 hp.2
            have hlt : off + i.toNat * sz < cs.length := by
              rcases Nat.lt_or_ge (off + i.toNat * sz) cs.length with h | h
              · exact h
              · rw [List.getElem?_eq_none h] at hu'; cases hu'
            refine ⟨rfl, ?_⟩
            have := loadS_sound (P := P) (t := t) (p := .ptr id (off + i.toNat * sz)) (e := ⟨[], u, []⟩) (by
              unfold loadS; simp only [hu, hi, hb, ha, hcs, SO.get, if_false]
              rw [if_pos (show off + i.toNat * sz + 1 ≤ cs.length by omega)]
              rw [List.drop_eq_getElem_cons hlt, List.take_succ_cons, List.take_zero]
              rw [List.getElem?_eq_getElem hlt] at hu'
              simp only [Option.some.injEq] at hu'
              subst hu'
              exact ⟨rfl, fun p hp => by cases hp⟩) hR
            have h2 := this.2
            simp only [SV.den] at h2 ⊢
            rw [hd]; exact h2
          · exact h.elim
      · exact h.elim
    · exact h.elim
  · exact loadS_sound h hR

/-- the one or the other -/
def mixI (i : Int) (j : Nat) (x old : SV) : Option SV :=
  match x.asI, old.asI with
  | some (_, k, a), some (_, k', b) => if k = k' then some (.int k (if i = (j : Int) then a else b)) else none
  | _, _ => match x.asB, old.asB with
    | some (_, a), some (_, b) => some (.bool (if i = (j : Int) then a else b))
    | _, _ => match x, old with
      | .str a, .str b => some (.str (if i = (j : Int) then a else b))
      | _, _ => none
theorem mixI_den {i : Int} {j : Nat} {x old v : SV} (h : mixI i j x old = some v) (η : Env) : v.den η = if i = (j : Int) then x.den η else old.den η := by
  unfold mixI at h
  split at h
  · rename_i h1 h2
    split at h
    · rename_i hk; subst hk
      simp only [Option.some.injEq] at h; subst h
      rw [SV.asI_den h1, SV.asI_den h2, SV.den]; split <;> rfl
    · cases h
  · split at h
    · rename_i h1 h2
      simp only [Option.some.injEq] at h; subst h
      rw [SV.asB_den h1, SV.asB_den h2, SV.den]; split <;> rfl
    · split at h
      · simp only [Option.some.injEq] at h; subst h
        simp only [SV.den]; split <;> rfl
      · cases h
theorem mixI_one {i : Int} {j : Nat} {x old v : SV} (h : mixI i j x old = some v) : v.one = true := by
  unfold mixI at h
  split at h
  · split at h
    · simp only [Option.some.injEq] at h; subst h; rfl
    · cases h
  · split at h
    · simp only [Option.some.injEq] at h; subst h; rfl
    · split at h
      · simp only [Option.some.injEq] at h; subst h; rfl
      · cases h
def updS (off sz : Nat) (i : Int) (x : SV) : Nat → Nat → List SV → Option (List SV)
  | _, 0, cs => some cs
  | j, n + 1, cs => match cs.nthK none some (off + j * sz) with
    | some old => match mixI i j x old with
      | some v => updS off sz i x (j + 1) n (cs.setN (off + j * sz) v)
      | none => none
    | none => none
theorem set_self {α : Type} {l : List α} {n : Nat} {a : α} (h : l[n]? = some a) : l.set n a = l := by
  apply List.ext_getElem?
  intro m
  rw [List.getElem?_set]
  by_cases hm : n = m
  · subst hm
    have hlt : n < l.length := by
      rcases Nat.lt_or_ge n l.length with h' | h'
      · exact h'
      · rw [List.getElem?_eq_none h'] at h; cases h
    rw [List.getElem?_eq_getElem hlt] at h
    simp only [Option.some.injEq] at h
    simp [hlt, h]
  · simp [hm]
theorem take_set_succ {α : Type} {l : List α} {k : Nat} {v : α} (h : k < l.length) : (l.set k v).take (k + 1) = l.take k ++ [v] := by
  rw [List.take_succ_eq_append_getElem (by simpa using h), List.take_set, List.set_eq_of_length_le (by simp; omega)]
  simp
theorem updS_den {off sz : Nat} {i : Int} {x : SV} (h0 : 0 ≤ i) : ∀ {n j : Nat} {cs cs' : List SV}, updS off sz i x j n cs = some cs' → cs'.length = cs.length ∧ (j ≤ i.toNat ∧ i.toNat < j + n → off + i.toNat * sz < cs.length) ∧
    ∀ η, dens η cs' = if j ≤ i.toNat ∧ i.toNat < j + n then (dens η cs).set (off + i.toNat * sz) (x.den η) else dens η cs
  | 0, j, cs, cs', h => by
    simp only [updS, Option.some.injEq] at h; subst h
    exact ⟨rfl, fun h => by omega, fun η => by rw [if_neg (by omega)]⟩
  | n + 1, j, cs, cs', h => by
    simp only [updS, List.nthK_some] at h
    split at h
    · rename_i old hold
      split at h
      · rename_i v hv
        have hlt : off + j * sz < cs.length := by
          rcases Nat.lt_or_ge (off + j * sz) cs.length with h' | h'
          · exact h'
          · rw [List.getElem?_eq_none h'] at hold; cases hold
        obtain ⟨h1, h2, h3⟩ := updS_den h0 h
        rw [List.setN_eq] at h1 h2 h3
        rw [List.length_set] at h1 h2
        have hmix := mixI_den hv
        refine ⟨h1, fun hr => ?_, fun η => ?_⟩
        · by_cases hj : i.toNat = j
          · rw [hj]; exact hlt
          · exact h2 (by omega)
        · rw [h3 η, dens_set', hmix]
          by_cases hj : i = (j : Int)
          · subst hj
            simp only [Int.toNat_natCast]
            simp only [if_true]
            rw [if_neg (by omega), if_pos (by omega)]
          · rw [if_neg hj]
            have hso : (dens η cs).set (off + j * sz) (old.den η) = dens η cs := set_self (by rw [dens_get?, hold]; rfl)
            rw [hso]
            by_cases hr : j + 1 ≤ i.toNat ∧ i.toNat < j + 1 + n
            · rw [if_pos hr, if_pos (by omega)]
            · rw [if_neg hr, if_neg (by omega)]
      · cases h
    · cases h
def updsS (sz n : Nat) (i : Int) : Nat → List SV → List SV → Option (List SV)
  | _, [], cs => some cs
  | off, x :: xs, cs => match updS off sz i x 0 n cs with
    | some cs' => updsS sz n i (off + 1) xs cs'
    | none => none
theorem updsS_den {sz n : Nat} {i : Int} (h0 : 0 ≤ i) (hn : i < n) : ∀ {vs : List SV} {off : Nat} {cs cs' : List SV}, updsS sz n i off vs cs = some cs' → cs'.length = cs.length ∧ (vs = [] ∨ off + i.toNat * sz + vs.length ≤ cs.length) ∧
    ∀ η, dens η cs' = spliceV (dens η cs) (off + i.toNat * sz) (dens η vs)
  | [], off, cs, cs', h => by
    simp only [updsS, Option.some.injEq] at h; subst h
    exact ⟨rfl, .inl rfl, fun η => by simp [spliceV, dens]⟩
  | x :: xs, off, cs, cs', h => by
    simp only [updsS] at h
    split at h
    · rename_i cs1 h1
      obtain ⟨a1, a2, a3⟩ := updS_den h0 h1
      obtain ⟨b1, b2, b3⟩ := updsS_den h0 hn h
      have hlt := a2 (by omega)
      refine ⟨b1.trans a1, .inr ?_, fun η => ?_⟩
      · rcases b2 with rfl | b2
        · simp; omega
        · simp only [List.length_cons]; omega
      · rw [b3 η, a3 η, if_pos (by omega)]
        rw [dens, show off + 1 + i.toNat * sz = off + i.toNat * sz + 1 by omega]
        have hlt' : off + i.toNat * sz < (dens η cs).length := by rw [dens_length]; exact hlt
        unfold spliceV
        rw [take_set_succ hlt', List.length_cons]
        have : ((dens η cs).set (off + i.toNat * sz) (x.den η)).drop (off + i.toNat * sz + 1 + (dens η xs).length) = (dens η cs).drop (off + i.toNat * sz + ((dens η xs).length + 1)) := by
          rw [List.drop_set_of_lt (by omega)]; congr 1; omega
        rw [this]; simp
    · cases h
theorem HRep.reSO {B : Base} {η : Env} {hp : Hp} {w : World} {id : Nat} {b b' : Blk} (h : HRep B η (hset hp id (some b)) w) (h1 : b'.rw = b.rw) (h2 : b'.kc = b.kc) (h3 : ∀ l, b.so.rep η (η.cap id) l → b'.so.rep η (η.cap id) l) : HRep B η (hset hp id (some b')) w := by
  have key : ∀ i c, hget (hset hp id (some b')) i = some c → ∃ c', hget (hset hp id (some b)) i = some c' ∧ c.rw = c'.rw ∧ c.kc = c'.kc ∧ ∀ l, c'.so.rep η (η.cap i) l → c.so.rep η (η.cap i) l := fun i c hg => by
    rw [hget_hset] at hg
    rw [hget_hset]
    by_cases hi : id = i
    · subst hi
      rw [if_pos rfl] at hg ⊢
      simp only [Option.some.injEq] at hg; subst hg
      exact ⟨b, rfl, h1, h2, h3⟩
    · rw [if_neg hi] at hg ⊢
      exact ⟨c, hg, rfl, rfl, fun _ h => h⟩
  have keyl : ∀ i r, lget (hset hp id (some b')) i = some r → lget (hset hp id (some b)) i = some r := fun i r hg => by rw [lget_hset] at hg ⊢; exact hg
  refine ⟨fun i c hg => ?_, fun i j c d hc hd => ?_, fun i c hg hrw => ?_, fun i r hg => h.loops i r (keyl i r hg), fun i r hg => h.lmine i r (keyl i r hg), fun i j r s hr hs => h.lapart i j r s (keyl i r hr) (keyl j s hs), h.size, h.kept, h.os, h.tape, h.output⟩
  · obtain ⟨c', hc', e1, e2, e3⟩ := key i c hg
    obtain ⟨hkc, a, T, fr, g1, g2, g3⟩ := h.blk i c' hc'
    exact ⟨fun m hm => hkc m (by rw [← e2]; exact hm), a, T, fr, g1, fun hr => g2 (by rw [← e1]; exact hr), e3 _ g3⟩
  · obtain ⟨c', hc', _⟩ := key i c hc
    obtain ⟨d', hd', _⟩ := key j d hd
    exact h.apart i j c' d' hc' hd'
  · obtain ⟨c', hc', e1, _⟩ := key i c hg
    exact h.mine i c' hc' (by rw [← e1]; exact hrw)
def storeX (P : Program) (t : TypeId) (p v : SV) (g : Nat → Option Blk) : Res :=
  match p with
  | .pti id off sz n i => match P.info? t, v.cellsS, g id with
    | some inf, some vs, some b => match b.so with
      | .cells cs => if vs.length = inf.size && b.rw && vs.all SV.one && !vs.isEmpty then match updsS sz n i off vs cs with
          | some cs' => .one ⟨[0 ≤ i ∧ i < n], undefS, [(id, some { b with so := .cells cs' })]⟩
          | none => .fail
        else .fail
      | _ => .fail
    | _, _, _ => .fail
  | p => storeS P t p v g
theorem storeX_sound {P : Program} {η : Env} {B : Base} {hp : Hp} {w : World} {t : TypeId} {p v : SV} {e : Eff} (h : (storeX P t p v (hget hp)).sat e) (hR : HRep B η hp w) :
    e.val = undefS ∧ ∃ w', (Instr.storeAt t (p.den η) (v.den η)).run P w = .ok () w' ∧ HRep B η (hsets hp e.sets) w' := by
  unfold storeX at h
  split at h
  · rename_i id off sz n i
    split at h
    · rename_i inf vs b hi hv hb
      split at h
      · rename_i cs hcs
        split at h
        · rename_i hcond
          simp only [Bool.and_eq_true, decide_eq_true_eq] at hcond
          split at h
          · rename_i cs' hu
            obtain ⟨rfl, ho⟩ := h
            refine ⟨rfl, ?_⟩
            have hp := ho _ (List.mem_singleton.2 rfl)
            obtain ⟨a1, a2, a3⟩ := updsS_den hp.1 hp.2 hu
            have hz : vs ≠ [] := by simpa using hcond.2
            have hl := a2.resolve_left hz
            have hst := storeS_sound (P := P) (t := t) (p := .ptr id (off + i.toNat * sz)) (v := v) (e := ⟨[], undefS, [(id, some { b with so := .cells (splice cs (off + i.toNat * sz) vs) })]⟩) (by
              unfold storeS; simp only [hi, hv, hb, hcs, SO.set]
              rw [if_pos (by simp [hcond.1.1.1, hcond.1.1.2]), if_pos (by simp only [Bool.and_eq_true, decide_eq_true_eq]; exact ⟨hl, hcond.1.2⟩)]
              exact ⟨rfl, fun p hp => by cases hp⟩) hR
            obtain ⟨_, w', hw1, hw2⟩ := hst
            refine ⟨w', hw1, ?_⟩
            refine HRep.reSO (b := { b with so := .cells (splice cs (off + i.toNat * sz) vs) }) hw2 rfl rfl fun l hl => ?_
            simp only [SO.rep] at hl ⊢
            rw [hl, a3, splice_den]
          · exact h.elim
        · exact h.elim
      · exact h.elim
    · exact h.elim
  · exact storeS_sound h hR
def allocS (P : Program) (t : TypeId) (key : Nat) : Res :=
  match P.info? t with
  | some i => match i.zero with
    | some z => .one ⟨[], .ptr key 0, [(key, some ⟨true, none, false, .cells (z.cells.toList.map ofV1)⟩)]⟩
    | none => .fail
  | none => .fail
theorem mens_ofV1 (p : Nat → Bool) (l : List Value) : mens p (l.map ofV1) = false := by
  induction l with
  | nil => rfl
  | cons v vs ih =>
    rw [List.map_cons, mens, ih, Bool.or_false]
    unfold ofV1; split <;> rfl

theorem HRep.newCells {B : Base} {η : Env} {hp : Hp} {w : World} {k : Nat} {T : TypeId} {c : Array Value} {cs : List SV} (h : HRep B η hp w) {p : Nat → Bool} (hpk : p k = true) (hf : Hp.fresh p hp = true) (hm : mens p cs = false) (hc : c.toList = dens η cs) :
    HRep B (η.set k w.heap.size 0) (hset hp k (some ⟨true, none, false, .cells cs⟩)) { w with heap := w.heap.push (.cells c T (0, 0)) } :=
  h.new (fr := (0, 0)) hpk hf hm rfl rfl rfl rfl (fun o _ hh => by omega) (fun m hm => by cases hm) hc

theorem allocS_sound {P : Program} {η : Env} {B : Base} {hp : Hp} {w : World} {t : TypeId} {key : Nat} {e : Eff} (h : (allocS P t key).sat e) (hR : HRep B η hp w) {p : Nat → Bool} (hpk : p key = true) (hf : Hp.fresh p hp = true) :
    ∃ w' η', (Instr.alloc t true (.tuple #[])).run P w = .ok (e.val.den η') w' ∧ HRep B η' (hsets hp e.sets) w' ∧ η.like η' p := by
  unfold allocS at h
  split at h
  · rename_i i hi
    split at h
    · rename_i z hz
      obtain ⟨rfl, _⟩ := h
      refine ⟨_, η.set key w.heap.size 0, ?_, HRep.newCells (T := t) (c := z.cells) hR hpk hf (mens_ofV1 ..) (by rw [dens_ofV1]), η.like_set key w.heap.size 0 hpk⟩
      unfold Instr.alloc newVar newRow
      simp [run_zero hi hz, SV.den, Env.set]
    · exact h.elim
  · exact h.elim

def boxS (v : SV) (key : Nat) : Res :=
  match v.cellsS with
  | some cs => .one ⟨[], .ptr key 0, [(key, some ⟨true, none, false, .cells cs⟩)]⟩
  | none => .fail
theorem cellsS_men {p : Nat → Bool} {v : SV} {cs : List SV} (h : v.cellsS = some cs) (hm : v.men p = false) : mens p cs = false := by
  cases v <;> simp [SV.cellsS] at h <;> subst h <;> simp_all [mens, SV.men]
theorem boxS_sound {P : Program} {η : Env} {B : Base} {hp : Hp} {w : World} {t : TypeId} {v : SV} {key : Nat} {e : Eff} (h : (boxS v key).sat e) (hR : HRep B η hp w) {p : Nat → Bool} (hpk : p key = true) (hf : Hp.fresh p hp = true) (hm : v.men p = false) :
    ∃ w' η', (Instr.box t (v.den η)).run P w = .ok (e.val.den η') w' ∧ HRep B η' (hsets hp e.sets) w' ∧ η.like η' p := by
  unfold boxS at h
  split at h
  · rename_i cs hcs
    obtain ⟨rfl, _⟩ := h
    refine ⟨_, η.set key w.heap.size 0, ?_, HRep.newCells (T := t) (c := (v.den η).cells) hR hpk hf (cellsS_men hcs hm) (SV.cellsS_den hcs), η.like_set key w.heap.size 0 hpk⟩
    unfold Instr.box newVar newRow
    simp [SV.den, Env.set]
  · exact h.elim
end Go.Sx
