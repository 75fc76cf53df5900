import Derived.Test.YtmeebemkoakkmaaGreatDoorSxB
set_option linter.all false
/-
  The other operations that turn no memory.
-/
noncomputable section
namespace Go.Sx
open Go

section
variable {P : Program} {w : World} {η : Env}

theorem run_szOf {t : TypeId} {i : TypeInfo} (h : P.info? t = some i) : (sizeOf t).run P w = .ok i.size w := by
  unfold sizeOf typeInfo; simp [h]
theorem run_zero {t : TypeId} {i : TypeInfo} {z : Value} (h : P.info? t = some i) (hz : i.zero = some z) : (zeroValue t).run P w = .ok z w := by
  unfold zeroValue typeInfo; simp [h, hz]
def aggD : TypeDesc → Bool
  | .struct _ | .array _ _ => true
  | _ => false
theorem run_isAggD {t : TypeId} {d : TypeDesc} (h : P.underlying t = some d) : (isAgg t).run P w = .ok (aggD d) w := by
  unfold isAgg; simp only [Sem.run_bind, run_underlying h, Result.andThen_ok]
  cases d <;> rfl
theorem run_arr_mapM {α β : Type} {f : α → Sem β} {g : α → β} (l : Array α) (h : ∀ x ∈ l, (f x).run P w = .ok (g x) w) : (l.mapM f).run P w = .ok (l.map g) w := by
  have key : ∀ (l : List α), (∀ x ∈ l, (f x).run P w = .ok (g x) w) → (l.mapM f).run P w = .ok (l.map g) w := by
    intro l
    induction l with
    | nil => intro _; simp
    | cons x xs ih =>
      intro h
      rw [List.mapM_cons]
      simp only [Sem.run_bind, h x (List.mem_cons_self ..), Result.andThen_ok, ih (fun y hy => h y (List.mem_cons_of_mem _ hy)), Sem.run_pure, List.map_cons]
  rw [Array.mapM_eq_mapM_toList]
  rw [Sem.run_map, key l.toList (fun x hx => h x (Array.mem_toList_iff.1 hx)), Result.andThen_ok, ← Array.toList_map]
end

/-- the cells of a value -/
def SV.cellsS : SV → Option (List SV)
  | .agg cs => some cs
  | .val _ => none
  | .jk _ => none
  | v => some [v]
theorem SV.cellsS_den {η : Env} {v : SV} {cs : List SV} (h : v.cellsS = some cs) : (v.den η).cells.toList = dens η cs := by
  cases v <;> simp [SV.cellsS] at h <;> subst h <;> simp [SV.den, Value.cells, dens]

def splice (cs : List SV) (off : Nat) (vs : List SV) : List SV := cs.take off ++ vs ++ cs.drop (off + vs.length)
theorem splice_nil (cs : List SV) (off : Nat) : splice cs off [] = cs := by simp [splice]
theorem foldl_set_splice {α : Type} : ∀ (vs : List α) (off j : Nat) (cs : Array α), off + j + vs.length ≤ cs.size →
    ((vs.zipIdx j).foldl (fun c (x : α × Nat) => c.setIfInBounds (off + x.2) x.1) cs).toList = cs.toList.take (off + j) ++ vs ++ cs.toList.drop (off + j + vs.length)
  | [], off, j, cs, _ => by simp
  | v :: vs, off, j, cs, h => by
    simp only [List.zipIdx_cons, List.foldl_cons, List.length_cons] at h ⊢
    rw [foldl_set_splice vs off (j + 1) _ (by simp; omega)]
    have hlt : off + j < cs.toList.length := by simp; omega
    rw [Array.toList_setIfInBounds, List.take_set, List.drop_set]
    have h1 : off + j < off + (j + 1) + vs.length := by omega
    rw [if_pos h1]
    have h2 : cs.toList.take (off + (j + 1)) = cs.toList.take (off + j) ++ [cs.toList[off + j]] := by
      rw [show off + (j + 1) = off + j + 1 from by omega, List.take_succ_eq_append_getElem hlt]
    rw [h2, List.set_append_right _ _ (by simp; omega)]
    have h3 : off + j - (cs.toList.take (off + j)).length = 0 := by simp; omega
    rw [h3]
    simp [List.append_assoc]
    congr 1
    omega

def fillS (place : Nat → Option (Nat × Nat)) (cells : List SV) : List (Nat × SV) → Option (List SV)
  | [] => some cells
  | (i, v) :: rest =>
    match place i, v.cellsS with
    | some (off, size), some vs =>
      if vs.length = size && decide (off + vs.length ≤ cells.length) then fillS place (splice cells off vs) rest else none
    | _, _ => none

theorem fillS_den {η : Env} {place : Nat → Option (Nat × Nat)} : ∀ {parts : List (Nat × SV)} {cells : List SV} {c : Array Value} {out : List SV}, fillS place cells parts = some out → c.toList = dens η cells →
    ∃ c', Instr.fill place c (parts.map fun x => (x.1, (x.2.den η))) = some c' ∧ c'.toList = dens η out
  | [], cells, c, out, h, hc => by simp [fillS] at h; subst h; exact ⟨c, rfl, hc⟩
  | (i, v) :: rest, cells, c, out, h, hc => by
    simp only [fillS] at h
    split at h
    · rename_i off size vs hp hv
      split at h
      · rename_i hcond
        simp only [Bool.and_eq_true, decide_eq_true_eq] at hcond
        obtain ⟨h1, h2⟩ := hcond
        have hcell := SV.cellsS_den (η := η) hv
        have hsz : (v.den η).cells.size = vs.length := by
          rw [← Array.length_toList, hcell, dens_length]
        have hcs : c.size = cells.length := by rw [← Array.length_toList, hc, dens_length]
        simp only [List.map_cons, Instr.fill, hp]
        have hno : (decide ((v.den η).cells.size ≠ size) || decide (off + (v.den η).cells.size > c.size)) = false := by
          simp; omega
        rw [if_neg (by rw [hno]; simp)]
        refine fillS_den h ?_
        have := foldl_set_splice (v.den η).cells.toList off 0 c (by rw [hcell, dens_length]; omega)
        rw [← Array.foldl_toList]
        rw [Array.toList_zipIdx]
        simp only [Nat.add_zero] at this
        rw [this, hcell, hc, splice, dens_append, dens_append, dens_take, dens_drop, dens_length]
      · cases h
    · cases h

def placesS (P : Program) (fields : Array Field) : Option (List (Nat × Nat)) :=
  fields.toList.mapM fun f => (P.info? f.type).map fun i => (f.offset, i.size)

theorem places_run {P : Program} {w : World} {fields : Array Field} {pl : List (Nat × Nat)} (h : placesS P fields = some pl) :
    (fields.mapM fun f => (do pure (f.offset, ← sizeOf f.type) : Sem (Nat × Nat))).run P w = .ok pl.toArray w := by
  unfold placesS at h
  have key : ∀ (l : List Field) (pl : List (Nat × Nat)), (l.mapM fun f => (P.info? f.type).map fun i => (f.offset, i.size)) = some pl →
      (l.mapM fun f => (do pure (f.offset, ← sizeOf f.type) : Sem (Nat × Nat))).run P w = .ok pl w := by
    intro l
    induction l with
    | nil => intro pl h; simp at h; subst h; simp
    | cons f fs ih =>
      intro pl h
      rw [List.mapM_cons] at h
      cases hi : P.info? f.type with
      | none => simp [hi] at h
      | some i =>
        cases hr : (fs.mapM fun f => (P.info? f.type).map fun i => (f.offset, i.size)) with
        | none => simp [hi, hr] at h
        | some pl' =>
          simp [hi, hr] at h
          subst h
          rw [List.mapM_cons]
          simp only [Sem.run_bind, run_szOf hi, Result.andThen_ok, Sem.run_pure, ih pl' hr]
  rw [Array.mapM_eq_mapM_toList, Sem.run_map, key _ _ h]
  simp

def buildS (P : Program) (t : TypeId) (parts : List (Nat × SV)) : Option SV :=
  match P.info? t, P.underlying t with
  | some i, some (.struct fields) =>
    match i.zero, placesS P fields with
    | some z, some pl => (fillS (fun j => pl[j]?) (z.cells.toList.map ofV1) parts).map .agg
    | _, _ => none
  | some i, some (.array _ elem) =>
    match i.zero, P.info? elem with
    | some z, some e => (fillS (fun j => some (j * e.size, e.size)) (z.cells.toList.map ofV1) parts).map .agg
    | _, _ => none
  | _, _ => none

theorem buildS_sound {η : Env} {P : Program} {w : World} {t : TypeId} {parts : List (Nat × SV)} {v : SV} (h : buildS P t parts = some v) :
    (Instr.build t (parts.map fun x => (x.1, (x.2.den η))).toArray).run P w = .ok (v.den η) w := by
  unfold buildS at h
  split at h
  · rename_i i fields hi hu
    split at h
    · rename_i z pl hz hpl
      obtain ⟨out, hout, rfl⟩ := Option.map_eq_some_iff.1 h
      obtain ⟨c', hc', hd⟩ := fillS_den (η := η) (c := z.cells) hout (by rw [dens_ofV1])
      unfold Instr.build
      simp only [Sem.run_bind, run_zero hi hz, Result.andThen_ok, run_underlying hu]
      rw [places_run hpl]
      simp only [Result.andThen_ok]
      have this : (fun (j : Nat) => pl.toArray[j]?) = fun (j : Nat) => pl[j]? := by funext j; simp
      rw [show (fun (x : Nat) => pl.toArray[x]?) = fun (j : Nat) => pl[j]? from this, hc']
      simp [SV.den, ← hd]
    · cases h
  · rename_i i n elem hi hu
    split at h
    · rename_i z e hz he
      obtain ⟨out, hout, rfl⟩ := Option.map_eq_some_iff.1 h
      obtain ⟨c', hc', hd⟩ := fillS_den (η := η) (c := z.cells) hout (by rw [dens_ofV1])
      unfold Instr.build
      simp only [Sem.run_bind, run_zero hi hz, Result.andThen_ok, run_underlying hu, run_szOf he]
      rw [hc']
      simp [SV.den, ← hd]
    · cases h
  · cases h

def partS (P : Program) (t : TypeId) (cs : List SV) (off : Nat) : Option SV :=
  match P.underlying t, P.info? t with
  | some d, some i =>
    if aggD d then some (.agg ((cs.drop off).take i.size)) else cs[off]?
  | _, _ => none
theorem partS_sound {η : Env} {P : Program} {w : World} {t : TypeId} {cs : List SV} {off : Nat} {v : SV} (h : partS P t cs off = some v) :
    (part t (dens η cs).toArray off).run P w = .ok (v.den η) w := by
  unfold partS at h
  split at h
  · rename_i d i hu hi
    unfold part
    simp only [Sem.run_bind, run_isAggD hu, Result.andThen_ok]
    split at h
    · rename_i ha
      simp only [Option.some.injEq] at h; subst h
      rw [if_pos ha]
      simp [run_szOf hi, SV.den, dens_eq, List.map_take, List.map_drop]
    · rename_i ha
      rw [if_neg ha]
      have : (dens η cs).toArray[off]? = some (v.den η) := by simp [dens_get?, h]
      rw [this]; rfl
  · cases h

def fieldS (P : Program) (t : TypeId) (x : SV) (i : Nat) : Option SV :=
  match P.underlying t, x with
  | some (.struct fields), .agg cs => match fields[i]? with
    | some f => partS P f.type cs f.offset
    | none => none
  | _, _ => none
theorem fieldS_sound {η : Env} {P : Program} {w : World} {t : TypeId} {x v : SV} {i : Nat} (h : fieldS P t x i = some v) : (Instr.field t (x.den η) i).run P w = .ok (v.den η) w := by
  unfold fieldS at h
  split at h
  · rename_i fields cs hu
    split at h
    · rename_i f hf
      unfold Instr.field
      simp only [Sem.run_bind, run_underlying hu, Result.andThen_ok, hf, SV.den, asAgg, Sem.run_pure]
      exact partS_sound h
    · cases h
  · cases h

def fieldAddrS (P : Program) (t : TypeId) (x : SV) (i : Nat) : Option SV :=
  match P.underlying t, x with
  | some (.struct fields), .ptr id off => match fields[i]? with
    | some f => match P.info? f.type with
      | some j => if j.size = 0 then none else some (.ptr id (off + f.offset))
      | none => none
    | none => none
  | some (.struct fields), .pti id off sz n k => match fields[i]? with
    | some f => match P.info? f.type with
      | some j => if j.size = 0 then none else some (.pti id (off + f.offset) sz n k)
      | none => none
    | none => none
  | _, _ => none
theorem addr_add (a o n : Nat) : (⟨a, o, none⟩ : Addr).add n = ⟨a, o + n, none⟩ := by
  unfold Addr.add; split
  · subst_vars; rfl
  · rfl
theorem fieldAddrS_sound {η : Env} {P : Program} {w : World} {t : TypeId} {x v : SV} {i : Nat} (h : fieldAddrS P t x i = some v) : (Instr.fieldAt t (x.den η) i).run P w = .ok (v.den η) w := by
  unfold fieldAddrS at h
  split at h
  · rename_i fields id off hu
    split at h
    · rename_i f hf
      split at h
      · rename_i j hj
        split at h
        · cases h
        · rename_i hs
          simp only [Option.some.injEq] at h; subst h
          unfold Instr.fieldAt
          simp only [Sem.run_bind, run_underlying hu, Result.andThen_ok, hf, SV.den, Instr.sureAddr, Sem.run_pure]
          unfold fieldPlace
          simp [run_szOf hj, hs, addr_add]
      · cases h
    · cases h
  · rename_i fields id off sz n k hu
    split at h
    · rename_i f hf
      split at h
      · rename_i j hj
        split at h
        · cases h
        · rename_i hs
          simp only [Option.some.injEq] at h; subst h
          unfold Instr.fieldAt
          simp only [Sem.run_bind, run_underlying hu, Result.andThen_ok, hf, SV.den, Instr.sureAddr, Sem.run_pure]
          unfold fieldPlace
          simp [run_szOf hj, hs, addr_add]
          omega
      · cases h
    · cases h
  · cases h

def indexAddrS (P : Program) (t : TypeId) (x ix : SV) : Option (SV × List Ob) :=
  match ix.asI, P.underlying t, x with
  | some (l, _, i), some (.array n elem), .ptr id off => match P.info? elem with
    | some e => some (.ptr id (off + i.toNat * e.size), owe l (0 ≤ i ∧ i < n))
    | none => none
  | some (_, _, i), some (.slice elem), .sl id off n _ => match P.info? elem with
    | some e => some (.ptr id (off + i.toNat * e.size), [0 ≤ i ∧ i < n])
    | none => none
  | _, _, _ => none
theorem indexAddrS_sound {η : Env} {P : Program} {w : World} {t : TypeId} {x ix v : SV} {o : List Ob} (h : indexAddrS P t x ix = some (v, o)) (ho : ∀ p ∈ o, p) : (Instr.indexAt t (x.den η) (ix.den η)).run P w = .ok (v.den η) w := by
  unfold indexAddrS at h
  split at h
  · rename_i l k i n elem id off hi hu
    split at h
    · rename_i e he
      simp only [Option.some.injEq, Prod.mk.injEq] at h; obtain ⟨rfl, rfl⟩ := h
      have hp := owe_pays ho
      rw [SV.asI_den hi]
      unfold Instr.indexAt
      simp only [asIntOf, Sem.run_bind, Sem.run_pure, run_underlying hu, Result.andThen_ok, SV.den, Instr.sureAddr]
      rw [if_pos hp]
      simp [run_szOf he, addr_add]
    · cases h
  · rename_i l k i elem id off n c hi hu
    split at h
    · rename_i e he
      simp only [Option.some.injEq, Prod.mk.injEq] at h; obtain ⟨rfl, rfl⟩ := h
      have hp := ho _ (List.mem_singleton.2 rfl)
      rw [SV.asI_den hi]
      unfold Instr.indexAt
      simp only [asIntOf, Sem.run_bind, Sem.run_pure, run_underlying hu, Result.andThen_ok, SV.den]
      rw [if_pos hp]
      simp [run_szOf he, addr_add]
    · cases h
  · cases h
end Go.Sx
