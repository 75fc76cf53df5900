import Derived.Test.YtmeebemkoakkmaaGreatDoorSxC
set_option linter.all false
noncomputable section
namespace Go.Sx
open Go

def Res.of : Option (SV × List Ob) → Res
  | some (v, o) => .one ⟨o, v, []⟩
  | none => .fail
def Res.ofV : Option SV → Res
  | some v => .one ⟨[], v, []⟩
  | none => .fail
theorem Res.of_sat {x : Option (SV × List Ob)} {e : Eff} (h : (Res.of x).sat e) : e.sets = [] ∧ x = some (e.val, e.obl) ∧ ∀ p ∈ e.obl, p := by
  cases x with
  | none => exact h.elim
  | some y => obtain ⟨v, o⟩ := y; obtain ⟨rfl, h⟩ := h; exact ⟨rfl, rfl, h⟩
theorem Res.ofV_sat {x : Option SV} {e : Eff} (h : (Res.ofV x).sat e) : e.sets = [] ∧ x = some e.val := by
  cases x with
  | none => exact h.elim
  | some y => obtain ⟨rfl, h⟩ := h; exact ⟨rfl, rfl⟩

/-! an array's part at an index that is no literal: of one kind -/
def allI : List SV → Option (IntKind × List Int)
  | [] => none
  | [v] => (v.asI).map fun x => (x.2.1, [x.2.2])
  | v :: vs => match v.asI, allI vs with
    | some (_, k, n), some (k', ns) => if k = k' then some (k, n :: ns) else none
    | _, _ => none
def allS : List SV → Option (List (List UInt8))
  | [] => some []
  | .str s :: vs => (allS vs).map (s :: ·)
  | _ => none
theorem allI_den {η : Env} : ∀ {l : List SV} {k : IntKind} {ns : List Int}, allI l = some (k, ns) → dens η l = ns.map (Value.int k ·)
  | [], _, _, h => by simp [allI] at h
  | [v], k, ns, h => by
    simp only [allI, Option.map_eq_some_iff] at h
    obtain ⟨⟨l, k', n⟩, h1, h2⟩ := h
    simp only [Prod.mk.injEq] at h2; obtain ⟨rfl, rfl⟩ := h2
    simp [dens, SV.asI_den h1]
  | v :: u :: vs, k, ns, h => by
    simp only [allI] at h
    split at h
    · rename_i l k1 n k' ns' h1 h2
      split at h
      · rename_i hk
        simp only [Option.some.injEq, Prod.mk.injEq] at h; obtain ⟨rfl, rfl⟩ := h
        rw [dens, SV.asI_den h1, allI_den h2, hk]; rfl
      · cases h
    · cases h
theorem allS_den {η : Env} : ∀ {l : List SV} {ns : List (List UInt8)}, allS l = some ns → dens η l = ns.map (fun s => Value.string ⟨s.toArray⟩)
  | [], ns, h => by simp [allS] at h; subst h; rfl
  | v :: vs, ns, h => by
    cases v <;> simp only [allS, reduceCtorEq] at h
    obtain ⟨ns', h1, rfl⟩ := Option.map_eq_some_iff.1 h
    rw [dens, allS_den h1]; rfl

/-- a choice among what lies in an array -/
def altsAt (i : Int) : Nat → List SV → Res
  | _, [] => .fail
  | j, [v] => .one ⟨[i = (j : Int)], v, []⟩
  | j, v :: vs => .alt (i = (j : Int)) ⟨[], v, []⟩ (altsAt i (j + 1) vs)
theorem altsAt_sat {i : Int} : ∀ {vs : List SV} {j : Nat} {e : Eff}, (altsAt i j vs).sat e → e.sets = [] ∧ ∃ m, i = ((j + m : Nat) : Int) ∧ vs[m]? = some e.val
  | [], _, _, h => h.elim
  | [v], j, e, h => by
    obtain ⟨rfl, h⟩ := h
    exact ⟨rfl, 0, by simpa using h _ (List.mem_singleton.2 rfl), rfl⟩
  | v :: u :: vs, j, e, h => by
    rcases h with ⟨h1, rfl, _⟩ | ⟨_, h⟩
    · exact ⟨rfl, 0, by simpa using h1, rfl⟩
    · obtain ⟨h1, m, h2, h3⟩ := altsAt_sat h
      exact ⟨h1, m + 1, by rw [h2]; congr 1; omega, by simpa using h3⟩

/-- a choice among an array's parts -/
def altsAgg (i : Int) (sz : Nat) (cs : List SV) : Nat → Nat → Res
  | 0, _ => .fail
  | 1, j => .one ⟨[i = (j : Int)], .agg ((cs.drop (j * sz)).take sz), []⟩
  | m + 2, j => .alt (i = (j : Int)) ⟨[], .agg ((cs.drop (j * sz)).take sz), []⟩ (altsAgg i sz cs (m + 1) (j + 1))
theorem altsAgg_sat {i : Int} {sz : Nat} {cs : List SV} : ∀ {m j : Nat} {e : Eff}, (altsAgg i sz cs m j).sat e → e.sets = [] ∧ ∃ k, k < m ∧ i = ((j + k : Nat) : Int) ∧ e.val = .agg ((cs.drop ((j + k) * sz)).take sz)
  | 0, _, _, h => h.elim
  | 1, j, e, h => by
    obtain ⟨rfl, h⟩ := h
    exact ⟨rfl, 0, by omega, by simpa using h _ (List.mem_singleton.2 rfl), rfl⟩
  | m + 2, j, e, h => by
    rcases h with ⟨h1, rfl, _⟩ | ⟨_, h⟩
    · exact ⟨rfl, 0, by omega, by simpa using h1, rfl⟩
    · obtain ⟨h1, k, h2, h3, h4⟩ := altsAgg_sat h
      exact ⟨h1, k + 1, by omega, by rw [h3]; congr 1; omega, by rw [h4, show j + 1 + k = j + (k + 1) by omega]⟩
/-- a place in an array at an index that is no literal -/
def indexAddrR (P : Program) (t : TypeId) (x ix : SV) : Res :=
  match ix, P.underlying t, x with
  | .int _ i, some (.array n elem), .ptr id off => match P.info? elem with
    | some e => .one ⟨[0 ≤ i ∧ i < n], .pti id off e.size n i, []⟩
    | none => .fail
  | ix, _, x => Res.of (indexAddrS P t x ix)
theorem indexAddrR_sound {η : Env} {P : Program} {w : World} {t : TypeId} {x ix : SV} {e : Eff} (h : (indexAddrR P t x ix).sat e) : e.sets = [] ∧ (Instr.indexAt t (x.den η) (ix.den η)).run P w = .ok (e.val.den η) w := by
  unfold indexAddrR at h
  split at h
  · rename_i k i n elem id off hu
    split at h
    · rename_i ei he
      obtain ⟨rfl, ho⟩ := h
      refine ⟨rfl, ?_⟩
      have := indexAddrS_sound (η := η) (w := w) (P := P) (t := t) (x := .ptr id off) (ix := .int k i) (v := .ptr id (off + i.toNat * ei.size)) (o := owe false (0 ≤ i ∧ i < n))
        (by simp only [indexAddrS, SV.asI, hu, he]) (fun p hp => by
          simp only [owe, Bool.false_eq_true, if_false, List.mem_singleton] at hp
          subst hp
          exact ho _ (List.mem_singleton.2 rfl))
      exact this
    · exact h.elim
  · obtain ⟨h1, h2, h3⟩ := Res.of_sat h
    exact ⟨h1, indexAddrS_sound h2 h3⟩

def indexS (P : Program) (t : TypeId) (x ix : SV) : Res :=
  match ix.asI, P.underlying t, x with
  | some (_, _, i), some .string, .str s => .one ⟨[0 ≤ i ∧ i < s.length], .int .u8 ((s.getD i.toNat 0).toNat), []⟩
  | some (l, _, i), some (.array n elem), .agg cs =>
    match P.info? elem, P.underlying elem with
    | some e, some d =>
      if aggD d then (match l with
        | true => .one ⟨owe true (0 ≤ i ∧ i < n), .agg ((cs.drop (i.toNat * e.size)).take e.size), []⟩
        | false => altsAgg i e.size cs n 0)
      else if e.size ≠ 1 ∨ n ≠ cs.length then .fail
      else if l then Res.of ((cs[i.toNat]?).map fun v => (v, owe l (0 ≤ i ∧ i < n)))
      else match allI cs, allS cs with
        | some (k, ns), _ => .one ⟨[0 ≤ i ∧ i < n], .int k (ns.getD i.toNat 0), []⟩
        | _, some ns => .one ⟨[0 ≤ i ∧ i < n], .str (ns.getD i.toNat []), []⟩
        | _, _ => altsAt i 0 cs
    | _, _ => .fail
  | _, _, _ => .fail

theorem mk_toList (l : List UInt8) (i : Nat) : (ByteArray.mk l.toArray)[i]? = l[i]? := by
  by_cases h : i < l.length
  · rw [getElem?_pos _ _ (by simpa [ByteArray.size] using h), List.getElem?_eq_getElem h]; rfl
  · rw [getElem?_neg _ _ (by simpa [ByteArray.size] using h), List.getElem?_eq_none (by omega)]

theorem indexS_sound {η : Env} {P : Program} {w : World} {t : TypeId} {x ix : SV} {e : Eff} (h : (indexS P t x ix).sat e) : e.sets = [] ∧ (Instr.index t (x.den η) (ix.den η)).run P w = .ok (e.val.den η) w := by
  unfold indexS at h
  split at h
  · rename_i l k i s hi hu
    obtain ⟨rfl, ho⟩ := h
    refine ⟨rfl, ?_⟩
    have hp := ho _ (List.mem_singleton.2 rfl)
    rw [SV.asI_den hi]
    unfold Instr.index
    simp only [asIntOf, Sem.run_bind, Sem.run_pure, run_underlying hu, Result.andThen_ok, SV.den]
    rw [if_pos hp.1, mk_toList]
    have hlt : i.toNat < s.length := by omega
    rw [List.getElem?_eq_getElem hlt]
    simp [hlt]
  · rename_i l k i n elem cs hi hu
    split at h
    · rename_i ei d he hd
      rw [SV.asI_den hi]
      unfold Instr.index
      simp only [asIntOf, Sem.run_bind, Sem.run_pure, run_underlying hu, Result.andThen_ok, SV.den]
      split at h
      · rename_i ha
        split at h
        · obtain ⟨rfl, ho⟩ := h
          refine ⟨rfl, ?_⟩
          have hp : 0 ≤ i ∧ i < n := owe_pays (l := true) ho
          rw [if_pos hp]
          simp only [Sem.run_bind, run_szOf he, Result.andThen_ok]
          exact partS_sound (by unfold partS; rw [hd, he]; simp [ha])
        · obtain ⟨h1, j, h2, h3, h4⟩ := altsAgg_sat h
          refine ⟨h1, ?_⟩
          have hp : 0 ≤ i ∧ i < n := by omega
          rw [if_pos hp]
          simp only [Sem.run_bind, run_szOf he, Result.andThen_ok]
          have hj : i.toNat = 0 + j := by omega
          rw [hj]
          exact partS_sound (by unfold partS; rw [hd, he]; simp [ha, h4])
      · rename_i ha
        split at h
        · exact h.elim
        · rename_i hs
          have hs' : ei.size = 1 ∧ n = cs.length := by omega
          obtain ⟨hs1, hs2⟩ := hs'
          split at h
          · rename_i hl
            obtain ⟨h1, h2, h3⟩ := Res.of_sat h
            obtain ⟨v, hv1, hv2⟩ := Option.map_eq_some_iff.1 h2
            simp only [Prod.mk.injEq] at hv2
            obtain ⟨rfl, hv3⟩ := hv2
            refine ⟨h1, ?_⟩
            have hp : 0 ≤ i ∧ i < n := owe_pays (l := l) (by rw [hv3]; exact h3)
            rw [if_pos hp]
            simp only [Sem.run_bind, run_szOf he, Result.andThen_ok, hs1, Nat.mul_one]
            exact partS_sound (by unfold partS; rw [hd, he]; simp [ha, hv1])
          · split at h
            · rename_i k' ns hns
              obtain ⟨rfl, ho⟩ := h
              refine ⟨rfl, ?_⟩
              have hp := ho _ (List.mem_singleton.2 rfl)
              rw [if_pos hp]
              simp only [Sem.run_bind, run_szOf he, Result.andThen_ok, hs1, Nat.mul_one]
              unfold part
              simp only [Sem.run_bind, run_isAggD hd, Result.andThen_ok]
              rw [if_neg ha, allI_den hns]
              have hlen : ns.length = cs.length := by have := congrArg List.length (allI_den (η := η) hns); simpa [dens_length] using this.symm
              have hlt : i.toNat < ns.length := by omega
              simp [hlt, SV.den]
            · rename_i ns hns _
              obtain ⟨rfl, ho⟩ := h
              refine ⟨rfl, ?_⟩
              have hp := ho _ (List.mem_singleton.2 rfl)
              rw [if_pos hp]
              simp only [Sem.run_bind, run_szOf he, Result.andThen_ok, hs1, Nat.mul_one]
              unfold part
              simp only [Sem.run_bind, run_isAggD hd, Result.andThen_ok]
              rw [if_neg ha, allS_den hns]
              have hlen : ns.length = cs.length := by have := congrArg List.length (allS_den (η := η) hns); simpa [dens_length] using this.symm
              have hlt : i.toNat < ns.length := by omega
              simp [hlt, SV.den]
            · obtain ⟨h1, m, h2, h3⟩ := altsAt_sat h
              refine ⟨h1, ?_⟩
              have hlt : m < cs.length := by
                rcases Nat.lt_or_ge m cs.length with h | h
                · exact h
                · rw [List.getElem?_eq_none h] at h3; cases h3
              have hp : 0 ≤ i ∧ i < n := by omega
              rw [if_pos hp]
              simp only [Sem.run_bind, run_szOf he, Result.andThen_ok, hs1, Nat.mul_one]
              have : i.toNat = m := by omega
              rw [this]
              exact partS_sound (by unfold partS; rw [hd, he]; simp [ha, h3])
    · exact h.elim
  · exact h.elim

/-! slices -/
def boundS (d : Nat) : Option SV → Option (Bool × Int)
  | none => some (true, d)
  | some v => (v.asI).map fun x => (x.1, x.2.2)

/-- the low and the high bound, and what is owed: y: the greatest high one -/
def boundsS (len y : Nat) (lo hi : Option SV) : Option (Nat × Nat × List Ob) :=
  match boundS 0 lo, boundS len hi with
  | some (_, l), some (_, h) =>
    some (l.toNat, h.toNat, (if lo.isSome then [ob (0 ≤ l ∧ l ≤ h)] else []) ++ (if hi.isSome then [ob (0 ≤ h ∧ h ≤ y)] else []))
  | _, _ => none
theorem boundsS_sound {η : Env} {P : Program} {w : World} {isSlice : Bool} {len y : Nat} {lo hi : Option SV} {l h : Nat} {o : List Ob} (hb : boundsS len y lo hi = some (l, h, o)) (ho : ∀ p ∈ o, p) (hly : len ≤ y) :
    (Instr.sliceBounds isSlice len y (lo.map (SV.den η)) (hi.map (SV.den η)) none).run P w = .ok (l, h, y) w ∧ l ≤ h ∧ h ≤ y := by
  unfold boundsS at hb
  split at hb
  · rename_i b1 l' b2 h' h1 h2
    simp only [Option.some.injEq, Prod.mk.injEq] at hb
    obtain ⟨rfl, rfl, rfl⟩ := hb
    cases hi with
    | none =>
      simp only [boundS, Option.some.injEq, Prod.mk.injEq] at h2
      obtain ⟨rfl, rfl⟩ := h2
      cases lo with
      | none =>
        simp only [boundS, Option.some.injEq, Prod.mk.injEq] at h1
        obtain ⟨rfl, rfl⟩ := h1
        refine ⟨?_, by simp, by simpa using hly⟩
        simp [Instr.sliceBounds]
      | some v =>
        simp only [boundS, Option.map_eq_some_iff] at h1
        obtain ⟨⟨lv, k, n⟩, hv, he⟩ := h1
        simp only [Prod.mk.injEq] at he; obtain ⟨rfl, rfl⟩ := he
        have hp : 0 ≤ n ∧ n ≤ (len : Int) := ho (ob (0 ≤ n ∧ n ≤ (len : Int))) (by simp)
        refine ⟨?_, by omega, by simpa using hly⟩
        simp only [Instr.sliceBounds, Option.map_some, Option.map_none, SV.asI_den hv, Instr.sliceBound, asIntOf, Sem.run_bind, Sem.run_pure, Result.andThen_ok, Int.toNat_natCast]
        rw [if_pos hp]; simp
    | some u =>
      simp only [boundS, Option.map_eq_some_iff] at h2
      obtain ⟨⟨lu, k, n⟩, hu, he⟩ := h2
      simp only [Prod.mk.injEq] at he; obtain ⟨rfl, rfl⟩ := he
      have hp : 0 ≤ n ∧ n ≤ (y : Int) := ho (ob (0 ≤ n ∧ n ≤ (y : Int))) (by simp)
      cases lo with
      | none =>
        simp only [boundS, Option.some.injEq, Prod.mk.injEq] at h1
        obtain ⟨rfl, rfl⟩ := h1
        refine ⟨?_, by simp, by omega⟩
        simp only [Instr.sliceBounds, Option.map_some, Option.map_none, SV.asI_den hu, Instr.sliceBound, asIntOf, Sem.run_bind, Sem.run_pure, Result.andThen_ok]
        rw [if_pos hp]; simp
      | some v =>
        simp only [boundS, Option.map_eq_some_iff] at h1
        obtain ⟨⟨lv, k', n'⟩, hv, he⟩ := h1
        simp only [Prod.mk.injEq] at he; obtain ⟨rfl, rfl⟩ := he
        have hq : 0 ≤ n' ∧ n' ≤ n := ho (ob (0 ≤ n' ∧ n' ≤ n)) (by simp)
        refine ⟨?_, by omega, by omega⟩
        simp only [Instr.sliceBounds, Option.map_some, SV.asI_den hu, SV.asI_den hv, Instr.sliceBound, asIntOf, Sem.run_bind, Sem.run_pure, Result.andThen_ok]
        rw [if_pos hp]
        simp only [Sem.run_pure, Result.andThen_ok]
        have hq' : 0 ≤ n' ∧ n' ≤ ((n.toNat : Nat) : Int) := by omega
        rw [if_pos hq']; simp
  · cases hb

def sliceS (P : Program) (t : TypeId) (x : SV) (lo hi : Option SV) : Option (SV × List Ob) :=
  match P.underlying t, x with
  | some .string, .str s => (boundsS s.length s.length lo hi).map fun (l, h, o) => (.str ((s.take h).drop l), o)
  | some (.slice elem), .sl id off len (.known cap) => match P.info? elem with
    | some e => (boundsS len cap lo hi).map fun (l, h, o) => (.sl id (if cap = l then off else off + l * e.size) (h - l) (.known (cap - l)), o ++ [ob (len ≤ cap)])
    | none => none
  | some (.slice elem), .nils => match P.info? elem with
    | some _ => (boundsS 0 0 lo hi).map fun x => (.nils, x.2.2)
    | none => none
  | some (.array n elem), .ptr id off => match P.info? elem with
    | some e => (boundsS n n lo hi).map fun (l, h, o) => (.sl id (if n = l then off else off + l * e.size) (h - l) (.known (n - l)), o)
    | none => none
  | _, _ => none

theorem extract_mk (s : List UInt8) (l h : Nat) : (ByteArray.mk s.toArray).extract l h = ⟨((s.take h).drop l).toArray⟩ := by
  apply ByteArray.ext
  simp [ByteArray.data_extract, List.drop_take]
theorem sliceS_sound {η : Env} {P : Program} {w : World} {t : TypeId} {x v : SV} {lo hi : Option SV} {o : List Ob} (h : sliceS P t x lo hi = some (v, o)) (ho : ∀ p ∈ o, p) :
    (Instr.sliceAt t (x.den η) (lo.map (SV.den η)) (hi.map (SV.den η)) none).run P w = .ok (v.den η) w := by
  unfold sliceS at h
  split at h
  · rename_i s hu
    obtain ⟨⟨l, hh, o'⟩, hb, he⟩ := Option.map_eq_some_iff.1 h
    simp only [Prod.mk.injEq] at he; obtain ⟨rfl, rfl⟩ := he
    obtain ⟨h1, _, _⟩ := boundsS_sound (η := η) (P := P) (w := w) (isSlice := false) hb ho (Nat.le_refl _)
    unfold Instr.sliceAt
    simp only [Sem.run_bind, run_underlying hu, Result.andThen_ok, SV.den]
    unfold Instr.slice
    simp only [Sem.run_bind, run_underlying hu, Result.andThen_ok]
    simp only [Option.isSome_none, Bool.false_eq_true, if_false]
    have : (ByteArray.mk s.toArray).size = s.length := by simp [ByteArray.size]
    simp only [Sem.run_bind, this, h1, Result.andThen_ok, Sem.run_pure, extract_mk]
  · rename_i elem id off len cap hu
    split at h
    · rename_i e hei
      obtain ⟨⟨l, hh, o'⟩, hb, he⟩ := Option.map_eq_some_iff.1 h
      simp only [Prod.mk.injEq] at he; obtain ⟨rfl, rfl⟩ := he
      have hlc : len ≤ cap := ho (ob (len ≤ cap)) (by simp)
      obtain ⟨h1, _, _⟩ := boundsS_sound (η := η) (P := P) (w := w) (isSlice := true) hb (fun p hp => ho p (by simp [hp])) hlc
      unfold Instr.sliceAt
      simp only [Sem.run_bind, run_underlying hu, Result.andThen_ok, SV.den, Cap.of]
      unfold Instr.slice
      simp only [Sem.run_bind, run_underlying hu, Result.andThen_ok, h1, run_szOf hei, Sem.run_pure]
      congr 2
      split <;> simp [addr_add]
    · cases h
  · rename_i elem hu
    split at h
    · rename_i e hei
      obtain ⟨⟨l, hh, o'⟩, hb, he⟩ := Option.map_eq_some_iff.1 h
      simp only [Prod.mk.injEq] at he; obtain ⟨rfl, rfl⟩ := he
      obtain ⟨h1, h2, h3⟩ := boundsS_sound (η := η) (P := P) (w := w) (isSlice := true) hb ho (Nat.le_refl _)
      unfold Instr.sliceAt
      simp only [Sem.run_bind, run_underlying hu, Result.andThen_ok, SV.den]
      unfold Instr.slice
      simp only [Sem.run_bind, run_underlying hu, Result.andThen_ok, h1, run_szOf hei, Sem.run_pure]
      have : hh - l = 0 := by omega
      simp [this]
    · cases h
  · rename_i n elem id off hu
    split at h
    · rename_i e hei
      obtain ⟨⟨l, hh, o'⟩, hb, he⟩ := Option.map_eq_some_iff.1 h
      simp only [Prod.mk.injEq] at he; obtain ⟨rfl, rfl⟩ := he
      obtain ⟨h1, _, _⟩ := boundsS_sound (η := η) (P := P) (w := w) (isSlice := false) hb ho (Nat.le_refl _)
      unfold Instr.sliceAt
      simp only [Sem.run_bind, run_underlying hu, Result.andThen_ok, SV.den, Cap.of, Instr.sureAddr, Sem.run_pure, h1, run_szOf hei]
      congr 2
      split <;> simp [addr_add]
    · cases h
  · cases h
end Go.Sx
